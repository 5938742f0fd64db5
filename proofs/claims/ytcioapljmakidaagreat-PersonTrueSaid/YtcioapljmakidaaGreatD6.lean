/- Part 6 of the proofs of the statements of this seat (a logic of pure contracts, the functions lowered, their contracts). No conditions. -/
import Derived.Test.YtcioapljmakidaaGreatD5
namespace Go.Px
open Go.Proofs Go.MapKept
abbrev sp2 (s : Sp) : List AV := [I s.1, I s.2]
abbrev scf (f : Nat → Sp) : List AV := [I (f 0).1, I (f 0).2, I (f 1).1, I (f 1).2, I (f 2).1, I (f 2).2, I (f 3).1, I (f 3).2, I (f 4).1, I (f 4).2, I (f 5).1, I (f 5).2]
theorem scf_get (f : Nat → Sp) {k : Nat} (h : k < 6) : loadAV (some 2) ((scf f).drop (0 + k * 2)) = some (.agg (sp2 (f k))) := by
  match k, h with
  | 0, _ => rfl
  | 1, _ => rfl
  | 2, _ => rfl
  | 3, _ => rfl
  | 4, _ => rfl
  | 5, _ => rfl
theorem scf_field (f : Nat → Sp) {k : Nat} (h : k < 6) : fieldAV (some 2) (k * 2) (scf f) = some (.agg (sp2 (f k))) := by
  match k, h with
  | 0, _ => rfl
  | 1, _ => rfl
  | 2, _ => rfl
  | 3, _ => rfl
  | 4, _ => rfl
  | 5, _ => rfl
theorem scf_set (f : Nat → Sp) (s : Sp) {k : Nat} (h : k < 6) : setSeg (scf f) (0 + k * 2) (sp2 s) = scf (fun j => if j = k then s else f j) := by
  match k, h with
  | 0, _ => rfl
  | 1, _ => rfl
  | 2, _ => rfl
  | 3, _ => rfl
  | 4, _ => rfl
  | 5, _ => rfl
theorem scells_set {b : List Sp} (hb : b.length = 6) (s : Sp) {k : Nat} (h : k < 6) : setSeg (scells b) (0 + k * 2) (sp2 s) = scells (b.set k s) := by
  have e : (fun j => if j = k then s else spAt b j) = spAt (b.set k s) := by
    funext j
    rw [spAt_set _ _ _ _ (by omega)]
    by_cases e : j = k
    · rw [if_pos e, if_pos e.symm]
    · rw [if_neg e, if_neg (fun h => e h.symm)]
  have := scf_set (spAt b) s h
  rw [e] at this
  exact this
abbrev sval (s : Sp) : Value := .agg #[.int .i64 s.1, .int .i64 s.2]
def spB (n : Int) (s : Sp) : Prop := -n ≤ s.1 ∧ s.1 ≤ n ∧ -n ≤ s.2 ∧ s.2 ≤ n
theorem wf_rng {n : Int} (h0 : -9223372036854775808 ≤ n) (h1 : n ≤ 9223372036854775807) : (Lit.int .i64 n).wf = true := by
  have e1 : IntKind.i64.min = -9223372036854775808 := rfl
  have e2 : IntKind.i64.max = 9223372036854775807 := rfl
  simp [Lit.wf]
  omega
theorem wideSpan {s : Sp} (h : spB 1000000 s) : WideKey Tryz.prog 5 43 (sval s) := by
  obtain ⟨a0, a1, b0, b1⟩ := h
  have e6 : Tryz.prog.cellsOf 43 = 2 := by kernel_rfl
  have e3 : Tryz.prog.cellsOf 3 = 1 := by kernel_rfl
  refine ⟨?_, [.int .i64 s.1, .int .i64 s.2], ?_⟩
  · simp [Value.formed, Tryz.underlying43, e6]
  · simp [Value.cells, Program.keyLits, Tryz.underlying43, Tryz.underlying3, e6, e3, wf_rng (n := s.1) (by omega) (by omega), wf_rng (n := s.2) (by omega) (by omega)]
theorem sval_eq {x y : Sp} : sval x = sval y ↔ x = y := by
  constructor
  · intro h
    simp only [sval, Value.agg.injEq, Array.mk.injEq, List.cons.injEq, Value.int.injEq, true_and, and_true] at h
    exact Prod.ext h.1 h.2
  · rintro rfl; rfl
theorem op_neSpan {d : Nat} {a b : Operand} {env : Env} {H : Heap} {x y : Sp} (ha : evO env a = .agg (sp2 x)) (hb : evO env b = .agg (sp2 y)) (wx : spB 1000000 x) (wy : spB 1000000 y) :
    ∀ (r : Option Nat) (N : Nat) (D : List Nat), Q1 Tryz.prog r N (.eqT true 43 a b) (some d) env H D [(d, B (!decide (x = y)))] := by
  intro r N D
  exact Op1.eqT (neg := true) (m := 5) (DD := 5) (by decide) (by kernel_rfl) (by kernel_rfl) (by kernel_rfl) (by kernel_rfl) (u := sval x) (v := sval y) (by rw [ha]; rfl) (by rw [hb]; rfl) (wideSpan wx) (wideSpan wy) (decide (x = y)) (by rw [decide_eq_true_iff]; exact sval_eq.symm) ⟨rfl, rfl, rfl⟩
structure BB (n : Int) (b : List Sp) : Prop where
  len : b.length = 6
  bd : ∀ k, spB n (spAt b k)
theorem BB.step {n : Int} {b : List Sp} (h : BB n b) (_hn : 0 ≤ n) {x y : Nat} (hx : x < 6) (hy : y < 6) : BB (n + 60) (yrStep b x y) := by
  have hl := h.len
  refine ⟨by rw [yrStep_len]; exact hl, fun k => ?_⟩
  unfold yrStep
  rw [spAt_set _ _ _ _ (by simpa using by omega), spAt_set _ _ _ _ (by omega)]
  have bx := h.bd x
  have by_ := h.bd y
  have bk := h.bd k
  unfold spB older younger at *
  split
  · simp only; omega
  · split
    · simp only; omega
    · omega
theorem bfewer_ev {b : List Sp} (hb : BB 900000 b) (g : Nat) {x y : Nat} (hx : x < 6) (hy : y < 6) :
    EvR Tryz.prog 112 [.po g 0, I (x : Nat), I (y : Nat)] [(g, .cells 106 (scells b))] (fun r Ho => r = B (yrMore b x y) ∧ Ho = [(g, .cells 106 (scells (yrStep b x y)))]) := by
  have hl := hb.len
  have bx := hb.bd x
  have by_ := hb.bd y
  have l1 := scf_get (spAt b) hx
  have l2 := scf_get (spAt b) hy
  have hstep : yrStep b x y = (b.set x (older (spAt b x) (spAt b y))).set y (younger (spAt b x) (spAt b y)) := rfl
  have hmore : yrMore b x y = (decide (older (spAt b x) (spAt b y) ≠ spAt b x) || decide (younger (spAt b x) (spAt b y) ≠ spAt b y)) := rfl
  rw [hstep, hmore]
  have ho : spB 1000000 (older (spAt b x) (spAt b y)) := by unfold spB older at *; simp only; omega
  have hyo : spB 1000000 (younger (spAt b x) (spAt b y)) := by unfold spB younger at *; simp only; omega
  have bx' : spB 1000000 (spAt b x) := by unfold spB at *; omega
  have by' : spB 1000000 (spAt b y) := by unfold spB at *; omega
  have e1 : older (spAt b x) (spAt b y) = (max (spAt b x).1 ((spAt b y).1 - 60), min (spAt b x).2 ((spAt b y).2 - 15)) := rfl
  have e2 : younger (spAt b x) (spAt b y) = (max (spAt b y).1 ((spAt b x).1 + 15), min (spAt b y).2 ((spAt b x).2 + 60)) := rfl
  generalize older (spAt b x) (spAt b y) = o1 at *
  generalize younger (spAt b x) (spAt b y) = o2 at *
  generalize hsx : spAt b x = sx at *
  generalize hsy : spAt b y = sy at *
  unfold spB at bx by_
  refine EvR.intro fn112 ?_
  refine LWp.sx (gs := []) (hs := []) rfl trivial ?_
  refine LWp.sd (gs := []) (hs := [.atv 0 (.agg (sp2 sx)), .atv 0 (.agg (sp2 sy)), .lin, .lin]) hmix rfl (by kernel_rfl) (by (repeat' (with_reducible apply And.intro)); (all_goals first | (with_reducible exact trivial) | (with_reducible rfl) | (with_reducible assumption) | ((with_reducible apply isB); first | exact rfl | exact beq_self_eq_true _) | omega | ((first | exact l1 | exact l2 | rfl | decide)))) ?_
  refine LWp.ent (Ent.trans (Ent.freezeLbox (t := 7) rfl) (Ent.freezeLbox (t := 8) rfl)) ?_
  refine LWp.ent (Ent.el (l := [(0, .po g 0), (1, I (x : Nat)), (2, I (y : Nat)), (7, .pi (sp2 sx)), (8, .pi (sp2 sy))]) ⟨rfl, rfl, rfl, rfl, rfl, trivial⟩) ?_
  refine LWp.sx (gs := []) (hs := [.lin]) rfl (by (repeat' (with_reducible apply And.intro)); (all_goals first | (with_reducible exact trivial) | (with_reducible rfl) | (with_reducible assumption) | ((with_reducible apply isB); first | exact rfl | exact beq_self_eq_true _) | omega | ((first | rfl | decide)))) ?_
  refine LWp.ent (Ent.freezeLbox (t := 9) rfl) ?_
  refine LWp.ent (Ent.el (l := [(0, .po g 0), (1, I (x : Nat)), (2, I (y : Nat)), (7, .pi (sp2 sx)), (8, .pi (sp2 sy)), (9, .pi (sp2 o1))]) ⟨rfl, rfl, rfl, rfl, rfl, by rw [e1]; rfl, trivial⟩) ?_
  refine LWp.sx (gs := []) (hs := [.lin]) rfl (by (repeat' (with_reducible apply And.intro)); (all_goals first | (with_reducible exact trivial) | (with_reducible rfl) | (with_reducible assumption) | ((with_reducible apply isB); first | exact rfl | exact beq_self_eq_true _) | omega | ((first | rfl | decide)))) ?_
  refine LWp.ent (Ent.freezeLbox (t := 10) rfl) ?_
  refine LWp.ent (Ent.el (l := [(0, .po g 0), (1, I (x : Nat)), (2, I (y : Nat)), (7, .pi (sp2 sx)), (8, .pi (sp2 sy)), (9, .pi (sp2 o1)), (10, .pi (sp2 o2))]) ⟨rfl, rfl, rfl, rfl, rfl, rfl, by rw [e2]; rfl, trivial⟩) ?_
  refine LWp.seq (LWp.d (gs := []) (hs := []) hmix rfl (by kernel_rfl) ⟨⟨by omega, by omega⟩, trivial⟩ ?_)
  refine WOps.hd (gs := []) (hs := [.stO 0]) rfl ⟨⟨rfl, rfl, rfl, rfl, ?_⟩, trivial⟩ ?_
  · show 0 + ((x : Nat) : Int).toNat * 2 + 2 ≤ 12
    omega
  refine LWp.ent (Ent.trans (Ent.ofH (H' := [(g, .cells 106 (scells (b.set x o1)))]) ?_) (Ent.el (l := [(0, .po g 0), (1, I (x : Nat)), (2, I (y : Nat)), (7, .pi (sp2 sx)), (8, .pi (sp2 sy)), (9, .pi (sp2 o1)), (10, .pi (sp2 o2))]) ⟨rfl, rfl, rfl, rfl, rfl, rfl, rfl, trivial⟩)) ?_
  · show [(g, HObj.cells _ (setSeg (scells b) (0 + x * 2) (sp2 o1)))] = _
    rw [scells_set hl o1 hx]
  refine LWp.seq (LWp.d (gs := []) (hs := []) hmix rfl (by kernel_rfl) ⟨⟨by omega, by omega⟩, trivial⟩ ?_)
  refine WOps.hd (gs := []) (hs := [.stO 0]) rfl ⟨⟨rfl, rfl, rfl, rfl, ?_⟩, trivial⟩ ?_
  · show 0 + ((y : Nat) : Int).toNat * 2 + 2 ≤ 12
    omega
  refine LWp.ent (Ent.trans (Ent.ofH (H' := [(g, .cells 106 (scells ((b.set x o1).set y o2)))]) ?_) (Ent.el (l := [(7, .pi (sp2 sx)), (8, .pi (sp2 sy)), (9, .pi (sp2 o1)), (10, .pi (sp2 o2))]) ⟨rfl, rfl, rfl, rfl, trivial⟩)) ?_
  · show [(g, HObj.cells _ (setSeg (scells (b.set x o1)) (0 + y * 2) (sp2 o2)))] = _
    rw [scells_set (by simpa using hl) o2 hy]
  by_cases h1 : o1 = sx
  · have z1 : (!decide (o1 = sx)) = false := by rw [decide_eq_true h1]; rfl
    refine LWp.sx (gs := [(60, false)]) (hs := [.op (B (!decide (o1 = sx))), .op (B (!decide (o2 = sy)))]) rfl (by (repeat' (with_reducible apply And.intro)); (all_goals first | (with_reducible exact trivial) | (with_reducible rfl) | (with_reducible assumption) | ((with_reducible apply isB); first | exact rfl | exact beq_self_eq_true _) | omega | ((first | exact op_neSpan rfl rfl ho bx' | exact op_neSpan rfl rfl hyo by')))) ?_
    refine LWp.ret ⟨.inr rfl, _, _, _, rfl, .one (.tmp rfl rfl), ⟨?_, rfl⟩, List.Sublist.refl _⟩
    show B _ = B _
    refine congrArg B ?_
    rw [Bool.eq_iff_iff]; simp [h1]
  · have z1 : (!decide (o1 = sx)) = true := by rw [decide_eq_false h1]; rfl
    refine LWp.sx (gs := [(60, true)]) (hs := [.op (B (!decide (o1 = sx)))]) rfl (by (repeat' (with_reducible apply And.intro)); (all_goals first | (with_reducible exact trivial) | (with_reducible rfl) | (with_reducible assumption) | ((with_reducible apply isB); first | exact rfl | exact beq_self_eq_true _) | omega | ((first | exact op_neSpan rfl rfl ho bx' | exact op_neSpan rfl rfl hyo by')))) ?_
    refine LWp.ret ⟨.inr rfl, _, _, _, rfl, .one (.tmp rfl rfl), ⟨?_, rfl⟩, List.Sublist.refl _⟩
    show B _ = B _
    refine congrArg B ?_
    rw [Bool.eq_iff_iff]; simp [h1]
end Go.Px

namespace Go.Px
open Go.Proofs Go.MapKept
def kidAt (ms : List Men) (p : List Nat) (i : Nat) : Option (Nat × Nat) := match ms[i]? with
  | some x => if x.par = -1 then none else some ((p[x.par.toNat]?).getD 0, (p[i]?).getD 0)
  | none => none
def kidsN (ms : List Men) (p : List Nat) (k : Nat) : List (Nat × Nat) := (List.range k).filterMap (kidAt ms p)
theorem kidsN_no {ms : List Men} {p : List Nat} {k : Nat} {x : Men} (hx : ms[k]? = some x) (h : x.par = -1) : kidsN ms p (k + 1) = kidsN ms p k := by
  have e : kidAt ms p k = none := by unfold kidAt; rw [hx]; simp only [h, if_true]
  unfold kidsN
  rw [List.range_succ, List.filterMap_append]
  simp [e]
theorem kidsN_yes {ms : List Men} {p : List Nat} {k : Nat} {x : Men} (hx : ms[k]? = some x) (h : x.par ≠ -1) : kidsN ms p (k + 1) = kidsN ms p k ++ [(per p x.par.toNat, per p k)] := by
  have e : kidAt ms p k = some (per p x.par.toNat, per p k) := by unfold kidAt; rw [hx]; simp only [if_neg h]; rfl
  unfold kidsN
  rw [List.range_succ, List.filterMap_append]
  simp [e]
theorem yrRound_append : ∀ (l1 l2 : List (Nat × Nat)) (s : List Sp × Bool), yrRound (l1 ++ l2) s = yrRound l2 (yrRound l1 s)
  | [], _, _ => rfl
  | (a, c) :: l1, l2, s => by
    simp only [List.cons_append, yrRound]
    exact yrRound_append l1 l2 _
theorem perOK_of {n : Nat} {p : List Nat} (h6 : n ≤ 6) (hg : Grp n p) : PerOK n p ∧ ∀ i, per p i < 6 := by
  have key : ∀ i, per p i < 6 := by
    intro i
    by_cases hi : i < n
    · have := hg.lt i hi
      have := hg.le
      omega
    · unfold per
      rw [List.getElem?_eq_none (by rw [hg.len]; omega)]
      show 0 < 6
      omega
  exact ⟨⟨hg.len, h6, fun i => by have := key i; omega⟩, key⟩
theorem spB_mono {n m : Int} (h : n ≤ m) {s : Sp} (b : spB n s) : spB m s := by unfold spB at *; omega
theorem born0_BB {t : Town} (h : t.OK) (p : List Nat) : BB 199 (born0 t p 6) := by
  refine ⟨born0_len t p 6, fun k => ?_⟩
  by_cases hk : k < 6
  · rw [born0_get t p hk]
    have := bornAt_in h p k t.ms.length (Nat.le_refl _)
    unfold spB; omega
  · have e : spAt (born0 t p 6) k = (0, 0) := by
      unfold spAt
      rw [List.getElem?_eq_none (by rw [born0_len]; omega)]; rfl
    rw [e]
    unfold spB; simp
theorem round_BB {ks : List (Nat × Nat)} {b : List Sp} (h : BB 199 b) (hk : ∀ k ∈ ks, k.1 < b.length ∧ k.2 < b.length) (he : emptyS (yrRound ks (b, false)).1 = false) : BB 199 (yrRound ks (b, false)).1 := by
  obtain ⟨s1, _⟩ := yrRound_sub ks b false hk
  refine ⟨by rw [yrRound_len]; exact h.len, fun k => ?_⟩
  by_cases hk6 : k < 6
  · have h1 := not_empty_at he (k := k) (by rw [yrRound_len, h.len]; exact hk6)
    have h2 := s1.2 k
    have h3 := h.bd k
    unfold SubS1 at h2
    unfold spB at *
    omega
  · have e : spAt (yrRound ks (b, false)).1 k = (0, 0) := by
      unfold spAt
      rw [List.getElem?_eq_none (by rw [yrRound_len, h.len]; omega)]; rfl
    rw [e]
    unfold spB; simp
def YRes (t : Town) (p : List Nat) (r : AV) : Prop := ∃ b, r = .tup [.agg (scells b), B (!emptyS (yearsW t p 6))] ∧ (emptyS (yearsW t p 6) = false → b = yearsW t p 6)
theorem zeroB : (Tryz.prog.info? 106).bind (·.zero) = some (.agg #[.int .i64 0, .int .i64 0, .int .i64 0, .int .i64 0, .int .i64 0, .int .i64 0, .int .i64 0, .int .i64 0, .int .i64 0, .int .i64 0, .int .i64 0, .int .i64 0]) := by kernel_rfl
theorem emptyS_iff6 {b : List Sp} (hl : b.length = 6) : emptyS b = false ↔ ∀ k, k < 6 → (spAt b k).1 ≤ (spAt b k).2 := by
  constructor
  · intro h k hk
    exact not_empty_at h (by omega)
  · intro h
    unfold emptyS
    rw [List.any_eq_false]
    intro x hx
    obtain ⟨k, hk⟩ := List.getElem?_of_mem hx
    have hlt := (List.getElem?_eq_some_iff.1 hk).1
    have := h k (by omega)
    unfold spAt at this
    rw [hk] at this
    simp only [Option.getD_some] at this
    simp only [decide_eq_true_eq]
    omega
structure YInv (t : Town) (p : List Nat) (b : List Sp) (more : Bool) : Prop where
  bb : BB 199 b
  go : more = true → yearsW t p 6 = yearsB (kids t.ms p) b
  end_ : more = false → yearsW t p 6 = b ∧ emptyS b = false
theorem YInv.next {t : Town} (h : t.OK) {p : List Nat} (hg : Grp t.ms.length p) (hk : Kin1 t p) {b : List Sp} (hi : YInv t p b true) :
    (emptyS (yrRound (kids t.ms p) (b, false)).1 = true → emptyS (yearsW t p 6) = true) ∧
    (emptyS (yrRound (kids t.ms p) (b, false)).1 = false → YInv t p (yrRound (kids t.ms p) (b, false)).1 (yrRound (kids t.ms p) (b, false)).2 ∧ ((yrRound (kids t.ms p) (b, false)).2 = true → width (yrRound (kids t.ms p) (b, false)).1 < width b)) := by
  have hks : ∀ k ∈ kids t.ms p, k.1 < b.length ∧ k.2 < b.length ∧ k.1 ≠ k.2 := by
    have := kids_ok h hg hk (w := 6) (by have := hg.le; have := h.ms6; omega)
    rw [born0_len] at this
    rw [hi.bb.len]
    exact this
  have hks2 : ∀ k ∈ kids t.ms p, k.1 < b.length ∧ k.2 < b.length := fun k hk => ⟨(hks k hk).1, (hks k hk).2.1⟩
  have e0 := hi.go rfl
  obtain ⟨s1, _⟩ := yrRound_sub (kids t.ms p) b false hks2
  constructor
  · intro he
    by_cases hb : emptyS b = true
    · rw [e0, yearsB_empty hb]; exact hb
    · have hb' : emptyS b = false := by simpa using hb
      cases hm : (yrRound (kids t.ms p) (b, false)).2 with
      | true => rw [e0, yearsB_more hks hb' hm, yearsB_empty he]; exact he
      | false => rw [e0, yearsB_done hb' hm]; exact he
  · intro he
    have hb' : emptyS b = false := by
      cases hb : emptyS b with
      | false => rfl
      | true => rw [emptyS_sub s1 hb] at he; cases he
    refine ⟨⟨round_BB hi.bb hks2 he, fun hm => ?_, fun hm => ?_⟩, fun hm => width_round hks hm he⟩
    · rw [e0, yearsB_more hks hb' hm]
    · rw [e0, yearsB_done hb' hm]
      exact ⟨rfl, he⟩
end Go.Px

namespace Go.Px
open Go.Proofs Go.MapKept
abbrev YRet (t : Town) (g1 g2 : Nat) (p : List Nat) (r : AV) (Ho : Heap) : Prop := YRes t p r ∧ ∃ m' : MS t, Ho = m'.heap g1 g2
theorem retY {t : Town} {g1 g2 b4 : Nat} {p : List Nat} {env : Env} {m : MS t} {b : List Sp} (h4 : env 4 = .po b4 0) (h5 : env 5 = B (!emptyS (yearsW t p 6))) (hb : emptyS (yearsW t p 6) = false → b = yearsW t p 6) :
    retR Tryz.prog [.cell 4 106, .tmp 5] (YRet t g1 g2 p) .ret env ((b4, .cells 106 (scells b)) :: m.heap g1 g2) [] :=
  ⟨.inr rfl, _, .tup [.agg (scells b), B (!emptyS (yearsW t p 6))], m.heap g1 g2, rfl,
    .many (by decide) (show All2 (ResAV Tryz.prog env _) [.cell 4 106, .tmp 5] [.agg (scells b), B (!emptyS (yearsW t p 6))] from
      ⟨.cellO (n := some 12) (i := 0) (cs := scells b) h4 rfl (by kernel_rfl) rfl, .tmp h5 rfl, trivial⟩), ⟨⟨b, rfl, hb⟩, m, rfl⟩, List.sublist_cons_self _ _⟩
set_option maxHeartbeats 1000000 in
theorem years_ev {t : Town} (h : t.OK) (but : Int) (g1 g2 : Nat) {p : List Nat} (hg : Grp t.ms.length p) (hk1 : Kin1 t p) (m : MS t) :
    EvR Tryz.prog 72 [tp t but g1 g2, .agg (pcells p)] (m.heap g1 g2) (YRet t g1 g2 p) := by
  obtain ⟨hpo, hp6⟩ := perOK_of h.ms6 hg
  obtain ⟨o, ho⟩ := mat_ex m.k (pval p)
  have hln : ((t.ms.map Men.enc).length : Int) = t.ms.length := by simp
  have hm6 := h.ms6
  have wp := wideP hpo
  refine EvR.intro fn72 ?_
  refine LWp.sx (gs := []) (hs := [.ice, .lin]) rfl ⟨⟨rfl, rfl⟩, rfl, trivial⟩ ?_
  have hlk : ∀ (env : Env) (H : Heap), evO env (tm 20) = .mo g2 → H[1]? = some (g2, .map m.k) → valOf (evO env (tm 21)) = some (pval p) → ∀ (r : Option Nat) (N : Nat) (D : List Nat),
      Q1 Tryz.prog r N (.lookup 156 (tm 20) (tm 21) true 95 106 [.int .i64 0, .int .i64 0, .int .i64 0, .int .i64 0, .int .i64 0, .int .i64 0, .int .i64 0, .int .i64 0, .int .i64 0, .int .i64 0, .int .i64 0, .int .i64 0]) (some 22) env H D [(22, lkRes true (cv (.agg #[.int .i64 0, .int .i64 0, .int .i64 0, .int .i64 0, .int .i64 0, .int .i64 0, .int .i64 0, .int .i64 0, .int .i64 0, .int .i64 0, .int .i64 0, .int .i64 0])) o)] := by
    intro env H h1 h2 h3 r N D
    exact Op1.lookupO (n := 1) hKP zeroB h1 h2 h3 wp (fun e he => (m.hk.ok e he).key) ho ⟨rfl, rfl, rfl⟩
  rcases mat_good ho m.hk with rfl | ⟨j, v, rfl, q, hq, hpq, hne, rfl⟩
  case inr =>
    have e := pval_inj h.ms6 hg.len hq.len hpq
    subst e
    refine LWp.seq (LWp.seq ?_)
    refine LWp.dd (gs := []) (hs := [.op (.tup [.agg (scells (yearsW t p 6)), B true])]) hmix rfl (by kernel_rfl) ⟨hlk _ _ rfl rfl rfl, ⟨rfl, rfl, rfl, Nat.le_refl 12⟩, trivial⟩ ?_
    refine LWp.sx (gs := []) (hs := []) rfl trivial ?_
    refine LWp.ite (b := true) rfl (fun _ => ?_) (fun h => by cases h)
    refine LWp.sx (gs := []) (hs := []) rfl ⟨⟨rfl, rfl, rfl, Nat.le_refl 12⟩, trivial⟩ ?_
    refine LWp.shareB (t := 4) rfl fun b4 => ?_
    refine LWp.ent (Ent.ofH (H' := (b4, .cells 106 (scells (yearsW t p 6))) :: m.heap g1 g2) rfl) ?_
    refine LWp.ret (retY rfl ?_ (fun _ => rfl))
    show B true = B _
    rw [hne]; rfl
  refine LWp.seq (LWp.seq ?_)
  refine LWp.dd (gs := []) (hs := [.op (.tup [.agg ([Value.int .i64 0, .int .i64 0, .int .i64 0, .int .i64 0, .int .i64 0, .int .i64 0, .int .i64 0, .int .i64 0, .int .i64 0, .int .i64 0, .int .i64 0, .int .i64 0].map .v), B false])]) hmix rfl (by kernel_rfl) ⟨hlk _ _ rfl rfl rfl, ⟨rfl, rfl, rfl, Nat.le_refl 12⟩, trivial⟩ ?_
  refine LWp.sx (gs := []) (hs := []) rfl trivial ?_
  refine LWp.ite (b := false) rfl (fun h => by cases h) (fun _ => LWp.skip ?_)
  refine LWp.shareB (t := 4) rfl fun b4 => ?_
  refine LWp.ent (Ent.trans (Ent.ofH (H' := (b4, .cells 106 (scf fun _ => (0, 0))) :: m.heap g1 g2) rfl) (Ent.el (l := [(0, tp t but g1 g2), (3, .pi (pcells p)), (4, .po b4 0)]) ⟨rfl, rfl, rfl, trivial⟩)) ?_
  -- all persons: 0 to 199
  refine LWp.seq (LWp.seq ?_)
  refine LWp.x (gs := []) (hs := []) rfl trivial ?_
  refine LWp.blockT (fun _ : Unit => True) (fun _ => el [(0, tp t but g1 g2), (3, .pi (pcells p)), (4, .po b4 0)]) (fun _ => (b4, .cells 106 (scf fun _ => (0, 199))) :: m.heap g1 g2) (fun _ => []) ?_ ?_
  · refine LWp.loopN (fun k : Nat => k ≤ 6) (fun k => el [(0, tp t but g1 g2), (3, .pi (pcells p)), (4, .po b4 0), (27, I k)]) (fun k => (b4, .cells 106 (scf fun j => if j < k then (0, 199) else (0, 0))) :: m.heap g1 g2) (fun _ => []) (fun k => 6 - k) 0 (by omega)
      (Ent.el ⟨rfl, rfl, rfl, rfl, trivial⟩) ?_
    intro k hk
    refine LWp.sx (gs := []) (hs := []) rfl trivial ?_
    refine LWp.seq (LWp.ite rfl (fun hc => ?_) (fun hc => ?_))
    · simp only [decide_eq_true_eq] at hc
      refine LWp.skip (LWp.seq (LWp.block ?_))
      refine LWp.sx (gs := []) (hs := []) rfl trivial ?_
      refine LWp.hx (gs := []) (hs := [.stO 0]) rfl ⟨⟨by omega, by omega⟩, ⟨rfl, rfl, rfl, rfl, ?_⟩, trivial⟩ ?_
      · show 0 + ((k : Nat) : Int).toNat * 2 + 2 ≤ 12
        omega
      refine LWp.x (gs := []) (hs := []) rfl ⟨by omega, trivial⟩ ?_
      refine ⟨k + 1, by omega, by omega, Ent.trans (Ent.ofH ?_) (Ent.el ⟨rfl, rfl, rfl, rfl, trivial⟩)⟩
      show (b4, HObj.cells _ (setSeg (scf fun j => if j < k then (0, 199) else (0, 0)) (0 + k * 2) (sp2 (0, 199)))) :: _ = _
      rw [scf_set _ _ (by omega)]
      have e : (fun j => if j = k then ((0, 199) : Sp) else if j < k then (0, 199) else (0, 0)) = fun j => if j < k + 1 then (0, 199) else (0, 0) := by
        funext j
        by_cases e1 : j = k
        · rw [if_pos e1, if_pos (by omega)]
        · rw [if_neg e1]
          by_cases e2 : j < k
          · rw [if_pos e2, if_pos (by omega)]
          · rw [if_neg e2, if_neg (by omega)]
      rw [e]
    · simp only [decide_eq_false_iff_not] at hc
      have e : k = 6 := by omega
      subst e
      exact LWp.exit ⟨(), trivial, Ent.trans (Ent.ofH rfl) (Ent.el ⟨rfl, rfl, rfl, trivial⟩)⟩
  intro _ _
  -- what mentions tell
  refine LWp.seq (LWp.seq ?_)
  refine LWp.x (gs := []) (hs := []) rfl trivial ?_
  refine LWp.blockT (fun _ : Unit => True) (fun _ => el [(0, tp t but g1 g2), (3, .pi (pcells p)), (4, .po b4 0)]) (fun _ => (b4, .cells 106 (scells (born0 t p 6))) :: m.heap g1 g2) (fun _ => []) ?_ ?_
  · refine LWp.loopN (fun k : Nat => k ≤ t.ms.length) (fun k => el [(0, tp t but g1 g2), (3, .pi (pcells p)), (4, .po b4 0), (38, mensV t.ms), (39, I t.ms.length), (40, I k)]) (fun k => (b4, .cells 106 (scf (bornAt t p k))) :: m.heap g1 g2) (fun _ => []) (fun k => t.ms.length - k) 0 (by omega)
      (Ent.trans (Ent.ofH rfl) (Ent.el ⟨rfl, rfl, rfl, rfl, by show I _ = I _; rw [hln], rfl, trivial⟩)) ?_
    intro k hk
    refine LWp.sx (gs := []) (hs := []) rfl trivial ?_
    refine LWp.seq (LWp.ite rfl (fun hc => ?_) (fun hc => ?_))
    · simp only [decide_eq_true_eq, Int.ofNat_lt] at hc
      obtain ⟨x, hx⟩ := ex_get hc
      have p1 := hp6 k
      have l1 := setc_pre (per p) (k := k) (by omega)
      have l2 := scf_get (bornAt t p k) p1
      have hsucc : bornAt t p (k + 1) = fun j => if j = per p k then (max (bornAt t p k (per p k)).1 x.lo, min (bornAt t p k (per p k)).2 x.hi) else bornAt t p k j := by
        funext w
        rw [bornAt_succ, Town.m_get hx]
        by_cases e : w = per p k
        · rw [if_pos e, if_pos e.symm, e]
        · rw [if_neg e, if_neg (fun h => e h.symm)]
      generalize hv1 : per p k = v1 at *
      generalize hs1 : bornAt t p k v1 = s1 at *
      refine LWp.skip (LWp.seq (LWp.block ?_))
      refine LWp.sx (gs := []) (hs := [.cells x.enc, .lin]) rfl ⟨⟨by omega, by simp [hx]⟩, rfl, ⟨rfl, rfl, rfl, by decide⟩, trivial⟩ ?_
      refine LWp.ent (Ent.freezeLbox (t := 8) rfl) ?_
      refine LWp.ent (Ent.el (l := [(0, tp t but g1 g2), (3, .pi (pcells p)), (4, .po b4 0), (7, I (k : Nat)), (8, .pi x.enc), (38, mensV t.ms), (39, I t.ms.length), (40, I k)]) ⟨rfl, rfl, rfl, rfl, rfl, rfl, rfl, rfl, trivial⟩) ?_
      refine LWp.sx (gs := []) (hs := [.pre [I (v1 : Nat)], .atv 0 (.agg (sp2 s1)), .lin]) rfl (by (repeat' (with_reducible apply And.intro)); (all_goals first | (with_reducible exact trivial) | (with_reducible rfl) | (with_reducible assumption) | ((with_reducible apply isB); first | exact rfl | exact beq_self_eq_true _) | omega | ((first | exact l1 | exact l2 | rfl | decide)))) ?_
      refine LWp.ent (Ent.freezeLbox (t := 9) rfl) ?_
      refine LWp.ent (Ent.el (l := [(0, tp t but g1 g2), (3, .pi (pcells p)), (4, .po b4 0), (7, I (k : Nat)), (8, .pi x.enc), (9, .pi (sp2 s1)), (38, mensV t.ms), (39, I t.ms.length), (40, I k)]) ⟨rfl, rfl, rfl, rfl, rfl, rfl, rfl, rfl, rfl, trivial⟩) ?_
      refine LWp.d (gs := []) (hs := [.pre [I (v1 : Nat)]]) hmix rfl (by kernel_rfl) ⟨⟨⟨by omega, by omega⟩, l1⟩, ⟨by omega, by omega⟩, trivial⟩ ?_
      refine WOps.hd (gs := []) (hs := [.stO 0]) rfl ⟨⟨rfl, rfl, rfl, rfl, ?_⟩, trivial⟩ ?_
      · show 0 + ((v1 : Nat) : Int).toNat * 2 + 2 ≤ 12
        omega
      refine LWp.x (gs := []) (hs := []) rfl ⟨by omega, trivial⟩ ?_
      refine ⟨k + 1, hc, by omega, Ent.trans (Ent.ofH ?_) (Ent.el ⟨rfl, rfl, rfl, rfl, rfl, rfl, trivial⟩)⟩
      show (b4, HObj.cells _ (setSeg (scf (bornAt t p k)) (0 + v1 * 2) (sp2 (max s1.1 x.lo, min s1.2 x.hi)))) :: _ = _
      rw [scf_set _ _ p1, hsucc]
    · simp only [decide_eq_false_iff_not, Int.ofNat_lt] at hc
      have e : k = t.ms.length := by omega
      subst e
      exact LWp.exit ⟨(), trivial, Ent.trans (Ent.ofH rfl) (Ent.el ⟨rfl, rfl, rfl, trivial⟩)⟩
  intro _ _
  refine LWp.sx (gs := []) (hs := []) rfl trivial ?_
  -- the rounds
  refine LWp.seq (LWp.seq ?_)
  refine LWp.x (gs := []) (hs := []) rfl trivial ?_
  refine LWp.blockT (Y := List Sp) (fun b => yearsW t p 6 = b ∧ emptyS b = false) (fun _ => el [(0, tp t but g1 g2), (3, .pi (pcells p)), (4, .po b4 0)]) (fun b => (b4, .cells 106 (scells b)) :: m.heap g1 g2) (fun _ => []) ?_ ?_
  · refine LWp.loopN (X := List Sp × Bool) (fun x => YInv t p x.1 x.2) (fun x => el [(0, tp t but g1 g2), (3, .pi (pcells p)), (4, .po b4 0), (10, .fn (.func 112) [.po b4 0] []), (11, B x.2)]) (fun x => (b4, .cells 106 (scells x.1)) :: m.heap g1 g2) (fun _ => []) (fun x => if x.2 = true then width x.1 + 1 else 0) (born0 t p 6, true) ⟨born0_BB h p, fun _ => rfl, fun h => by cases h⟩
      (Ent.el ⟨rfl, rfl, rfl, rfl, rfl, trivial⟩) ?_
    rintro ⟨b, more⟩ hi
    simp only at hi ⊢
    refine LWp.seq (LWp.seq ?_)
    refine LWp.x (gs := []) (hs := []) rfl trivial ?_
    cases more with
    | false =>
      refine LWp.ite (b := false) rfl (fun h => by cases h) (fun _ => LWp.exit ⟨b, hi.end_ rfl, Ent.el ⟨rfl, rfl, rfl, trivial⟩⟩)
    | true =>
    refine LWp.ite (b := true) rfl (fun _ => LWp.skip ?_) (fun h => by cases h)
    refine LWp.block ?_
    refine LWp.sx (gs := []) (hs := []) rfl trivial ?_
    refine LWp.seq (LWp.seq ?_)
    refine LWp.x (gs := []) (hs := []) rfl trivial ?_
    obtain ⟨n1, n2⟩ := hi.next h hg hk1
    have hbb := hi.bb
    refine LWp.blockT (fun _ : Unit => True) (fun _ => el [(0, tp t but g1 g2), (3, .pi (pcells p)), (4, .po b4 0), (10, .fn (.func 112) [.po b4 0] []), (11, B (yrRound (kids t.ms p) (b, false)).2)]) (fun _ => (b4, .cells 106 (scells (yrRound (kids t.ms p) (b, false)).1)) :: m.heap g1 g2) (fun _ => []) ?_ ?_
    · refine LWp.loopN (fun k : Nat => k ≤ t.ms.length ∧ BB (199 + 60 * k) (yrRound (kidsN t.ms p k) (b, false)).1) (fun k => el [(0, tp t but g1 g2), (3, .pi (pcells p)), (4, .po b4 0), (10, .fn (.func 112) [.po b4 0] []), (11, B (yrRound (kidsN t.ms p k) (b, false)).2), (74, mensV t.ms), (75, I t.ms.length), (76, I k)]) (fun k => (b4, .cells 106 (scells (yrRound (kidsN t.ms p k) (b, false)).1)) :: m.heap g1 g2) (fun _ => []) (fun k => t.ms.length - k) 0 ⟨by omega, by simpa [kidsN, yrRound] using hbb⟩
        (Ent.el ⟨rfl, rfl, rfl, rfl, rfl, rfl, by show I _ = I _; rw [hln], rfl, trivial⟩) ?_
      rintro k ⟨hk, hB⟩
      refine LWp.sx (gs := []) (hs := []) rfl trivial ?_
      refine LWp.seq (LWp.ite rfl (fun hc => ?_) (fun hc => ?_))
      · simp only [decide_eq_true_eq, Int.ofNat_lt] at hc
        obtain ⟨x, hx⟩ := ex_get hc
        have ox := h.men k x hx
        have q0 := ox.par0
        have q1 := ox.par1
        have p1 := hp6 k
        have p2 := hp6 x.par.toNat
        have l1 := setc_pre (per p) (k := k) (by omega)
        have l2 := setc_pre (per p) (k := x.par.toNat) (by omega)
        refine LWp.skip (LWp.seq (LWp.block ?_))
        refine LWp.sx (gs := []) (hs := [.cells x.enc, .lin]) rfl ⟨⟨by omega, by simp [hx]⟩, rfl, ⟨rfl, rfl, rfl, by decide⟩, trivial⟩ ?_
        refine LWp.ent (Ent.freezeLbox (t := 13) rfl) ?_
        refine LWp.ent (Ent.el (l := [(0, tp t but g1 g2), (3, .pi (pcells p)), (4, .po b4 0), (10, .fn (.func 112) [.po b4 0] []), (11, B (yrRound (kidsN t.ms p k) (b, false)).2), (12, I (k : Nat)), (13, .pi x.enc), (74, mensV t.ms), (75, I t.ms.length), (76, I k)]) ⟨rfl, rfl, rfl, rfl, rfl, rfl, rfl, rfl, rfl, rfl, trivial⟩) ?_
        by_cases hp : x.par = -1
        · have hz : (x.par != -1) = false := by rw [hp]; rfl
          refine LWp.sd (gs := [(84, false)]) (hs := []) hmix rfl (by kernel_rfl) (by (repeat' (with_reducible apply And.intro)); (all_goals first | (with_reducible exact trivial) | (with_reducible rfl) | (with_reducible assumption) | ((with_reducible apply isB); first | exact rfl | exact beq_self_eq_true _) | omega | ((rfl)))) ?_
          refine LWp.ite (b := false) rfl (fun h => by cases h) (fun _ => LWp.skip ?_)
          refine LWp.x (gs := []) (hs := []) rfl ⟨by omega, trivial⟩ ?_
          have ek := kidsN_no (p := p) hx hp
          refine ⟨k + 1, ⟨hc, ?_⟩, by omega, Ent.trans (Ent.ofH ?_) (Ent.el ⟨rfl, rfl, rfl, rfl, ?_, rfl, rfl, rfl, trivial⟩)⟩
          · rw [ek]
            exact ⟨hB.len, fun j => spB_mono (by omega) (hB.bd j)⟩
          · rw [ek]
          · rw [ek]; rfl
        · have hz : (x.par != -1) = true := by rw [bne_iff_ne]; exact hp
          have ek := kidsN_yes (p := p) hx hp
          have er : yrRound (kidsN t.ms p (k + 1)) (b, false) = (yrStep (yrRound (kidsN t.ms p k) (b, false)).1 (per p x.par.toNat) (per p k), (yrRound (kidsN t.ms p k) (b, false)).2 || yrMore (yrRound (kidsN t.ms p k) (b, false)).1 (per p x.par.toNat) (per p k)) := by
            rw [ek, yrRound_append]
            rfl
          have hB2 : BB (199 + 60 * ((k + 1 : Nat) : Int)) (yrStep (yrRound (kidsN t.ms p k) (b, false)).1 (per p x.par.toNat) (per p k)) := by
            have := hB.step (by omega) p2 p1
            rw [show (199 + 60 * ((k + 1 : Nat) : Int)) = 199 + 60 * (k : Int) + 60 by omega]
            exact this
          generalize (yrRound (kidsN t.ms p k) (b, false)).1 = bk at *
          generalize (yrRound (kidsN t.ms p k) (b, false)).2 = mk at *
          generalize per p x.par.toNat = v2 at *
          generalize hv1 : per p k = v1 at *
          have hBk : BB 900000 bk := ⟨hB.len, fun j => spB_mono (by omega) (hB.bd j)⟩
          refine LWp.seq (LWp.d (gs := [(84, true)]) (hs := [.pre [I (v2 : Nat)], .pre [I (v1 : Nat)]]) hmix rfl (by kernel_rfl) (by (repeat' (with_reducible apply And.intro)); (all_goals first | (with_reducible exact trivial) | (with_reducible rfl) | (with_reducible assumption) | omega | exact l1 | exact l2)) ?_)
          refine WOps.yes (congrArg B hz) (Op1.callvR (Hin := [(b4, .cells 106 (scells bk))]) (H0 := m.heap g1 g2) rfl (show EvR Tryz.prog 112 [.po b4 0, I (v2 : Nat), I (v1 : Nat)] _ _ from bfewer_ev hBk b4 p2 p1) rfl rfl (SubL.refl _) rfl ?_)
          rintro res Hout ⟨rfl, rfl⟩
          refine WOps.xd (gs := [(84, true)]) (hs := []) rfl (by (repeat' (with_reducible apply And.intro)); (all_goals first | (with_reducible exact trivial) | (with_reducible rfl) | (with_reducible assumption) | ((with_reducible apply isB); first | exact rfl | exact beq_self_eq_true _) | omega | ((rfl)))) ?_
          refine LWp.ite (b := yrMore bk v2 v1) rfl (fun hm => ?_) (fun hm => LWp.skip ?_)
          · refine LWp.x (gs := []) (hs := []) rfl trivial ?_
            refine LWp.x (gs := []) (hs := []) rfl ⟨by omega, trivial⟩ ?_
            refine ⟨k + 1, ⟨hc, by rw [er]; exact hB2⟩, by omega, Ent.trans (Ent.ofH (by rw [er]; rfl)) (Ent.el ⟨rfl, rfl, rfl, rfl, ?_, rfl, rfl, rfl, trivial⟩)⟩
            show B true = B _
            rw [er, hm, Bool.or_true]
          · refine LWp.x (gs := []) (hs := []) rfl ⟨by omega, trivial⟩ ?_
            refine ⟨k + 1, ⟨hc, by rw [er]; exact hB2⟩, by omega, Ent.trans (Ent.ofH (by rw [er]; rfl)) (Ent.el ⟨rfl, rfl, rfl, rfl, ?_, rfl, rfl, rfl, trivial⟩)⟩
            show B mk = B _
            rw [er, hm, Bool.or_false]
      · simp only [decide_eq_false_iff_not, Int.ofNat_lt] at hc
        have e : k = t.ms.length := by omega
        subst e
        exact LWp.exit ⟨(), trivial, Ent.el ⟨rfl, rfl, rfl, rfl, rfl, trivial⟩⟩
    intro _ _
    have hl6 : (yrRound (kids t.ms p) (b, false)).1.length = 6 := by rw [yrRound_len]; exact hbb.len
    generalize (yrRound (kids t.ms p) (b, false)).1 = b2 at *
    generalize (yrRound (kids t.ms p) (b, false)).2 = m2 at *
    refine LWp.sx (gs := []) (hs := [.at 0]) rfl ⟨rfl, trivial⟩ ?_
    refine LWp.block ?_
    refine LWp.loopN (fun k : Nat => k ≤ 6 ∧ ∀ j, j < k → (spAt b2 j).1 ≤ (spAt b2 j).2) (fun k => el [(0, tp t but g1 g2), (3, .pi (pcells p)), (4, .po b4 0), (10, .fn (.func 112) [.po b4 0] []), (11, B m2), (96, .agg (scells b2)), (97, I k)]) (fun _ => (b4, .cells 106 (scells b2)) :: m.heap g1 g2) (fun _ => []) (fun k => 6 - k) 0 ⟨by omega, by intro j hj; omega⟩
      (Ent.el ⟨rfl, rfl, rfl, rfl, rfl, rfl, rfl, trivial⟩) ?_
    rintro k ⟨hk, hp⟩
    refine LWp.sx (gs := []) (hs := []) rfl trivial ?_
    refine LWp.seq (LWp.ite rfl (fun hc => ?_) (fun hc => ?_))
    · simp only [decide_eq_true_eq] at hc
      refine LWp.skip (LWp.seq (LWp.block ?_))
      refine LWp.sx (gs := []) (hs := [.idx (.agg (sp2 (spAt b2 k))), .lin]) rfl ⟨⟨⟨by omega, by omega⟩, scf_field (spAt b2) (by omega)⟩, rfl, ⟨rfl, rfl, rfl, by decide⟩, trivial⟩ ?_
      refine LWp.ent (Ent.freezeLbox (t := 15) rfl) ?_
      refine LWp.sx (gs := []) (hs := []) rfl trivial ?_
      refine LWp.ite (b := decide ((spAt b2 k).1 > (spAt b2 k).2)) rfl (fun hd => ?_) (fun hd => LWp.skip ?_)
      · rw [decide_eq_true_iff] at hd
        have he : emptyS b2 = true := by
          cases hb : emptyS b2 with
          | true => rfl
          | false => have := (emptyS_iff6 hl6).1 hb k (by omega); omega
        refine LWp.shx (gs := []) (hs := [.at 0, .stO 0]) rfl ⟨rfl, ⟨rfl, rfl, rfl, rfl, Nat.le_refl 12⟩, trivial⟩ ?_
        refine LWp.ret (retY (m := m) (b := b2) rfl ?_ (fun hf => by rw [n1 he] at hf; cases hf))
        show B false = B _
        rw [n1 he]; rfl
      · rw [decide_eq_false_iff_not] at hd
        refine LWp.x (gs := []) (hs := []) rfl ⟨by omega, trivial⟩ ?_
        refine ⟨k + 1, ⟨by omega, fun j hj => ?_⟩, by omega, Ent.el ⟨rfl, rfl, rfl, rfl, rfl, rfl, rfl, trivial⟩⟩
        by_cases e : j = k
        · rw [e]; omega
        · exact hp j (by omega)
    · simp only [decide_eq_false_iff_not] at hc
      have he : emptyS b2 = false := (emptyS_iff6 hl6).2 (fun j hj => hp j (by omega))
      obtain ⟨i1, i2⟩ := n2 he
      refine LWp.exit ⟨(b2, m2), i1, ?_, Ent.el ⟨rfl, rfl, rfl, rfl, rfl, trivial⟩⟩
      simp only [if_true]
      split
      · have := i2 (by assumption)
        omega
      · omega
  rintro b ⟨hb1, hb2⟩
  refine LWp.seq (LWp.d (gs := []) (hs := [.at 0]) hmix rfl (by kernel_rfl) ⟨rfl, trivial⟩ ?_)
  refine WOps.cons (Op1.mapup (n := 2) hKP rfl rfl rfl wp (fun e he => (m.hk.ok e he).key) ho rfl rfl ?_)
  refine WOps.nil ?_
  have w2 : MOK (GK t) (mput m.k (pval p) (.agg (scells b)) none) := MOK.put ho (m.hk.weak _) ⟨p, hpo, rfl, by rw [hb1]; exact hb2, by rw [hb1]⟩
  refine LWp.ent (Ent.ofH (H' := (b4, .cells 106 (scells b)) :: (⟨m.c, _, m.hc, w2⟩ : MS t).heap g1 g2) rfl) ?_
  refine LWp.shx (gs := []) (hs := [.at 0, .stO 0]) rfl ⟨rfl, ⟨rfl, rfl, rfl, rfl, Nat.le_refl 12⟩, trivial⟩ ?_
  refine LWp.ret (retY (m := ⟨m.c, _, m.hc, w2⟩) (b := b) rfl ?_ (fun _ => hb1.symm))
  show B true = B _
  rw [hb1, hb2]; rfl
end Go.Px

namespace Go.Px
open Go.Proofs Go.MapKept
abbrev apartF (t : Town) : Nat → Nat → Bool := fun j i => whyF t j i != 0
abbrev Yv (l : Nat) : AV := .fn (.yield l) [] []
def nextV (t : Town) (but : Int) (g1 g2 l bp bn : Nat) : AV := .fn (.func 135) [] [.pi [tp t but g1 g2], .po bp 0, .pi [Yv l], .po bn 0]
abbrev NT (t : Town) (but : Int) (g1 g2 l bp bn : Nat) (a : Nat → Nat) : Heap := [(bp, .cells 95 (setc a)), (bn, .cells 69 [nextV t but g1 g2 l bp bn])]
theorem per_len (p : List Nat) {i : Nat} (h : ¬ i < p.length) : per p i = 0 := by
  unfold per
  rw [List.getElem?_eq_none (by omega)]; rfl
theorem kin1_of {t : Town} (h : t.OK) {p : List Nat} (hl : p.length = t.ms.length) (hp : pairsB (apartF t) p = true) : Kin1 t p := by
  intro i hi hne e
  have hi' := (pairs_iff hl).1 hp
  have ox := h.at hi
  have q0 := ox.par0
  have q1 := ox.par1
  have q2 := ox.own
  by_cases hlt : (t.m i).par.toNat < i
  · have := (whyF_zero.1 (hi' i hi _ hlt e)).2.2.2.2
    omega
  · have := (whyF_zero.1 (hi' (t.m i).par.toNat (by omega) i (by omega) e.symm)).2.2.2.1
    omega
def childF (t : Town) (last : List Nat → Bool) (m : Nat) (p : List Nat) (k : Nat) : List (List Nat) :=
  if (List.range p.length).all (fun j => !(p[j]? == some k && apartF t j p.length)) = true then dfsF (apartF t) last m (p ++ [k]) else []
theorem dfs_child (t : Town) (last : List Nat → Bool) (m : Nat) (p : List Nat) : dfsF (apartF t) last (m + 1) p = (List.range (cnt p + 1)).flatMap (childF t last m p) := rfl
theorem range_flat {α : Type} (g : Nat → List α) (n : Nat) : (List.range (n + 1)).flatMap g = (List.range n).flatMap g ++ g n := by
  rw [List.range_succ, List.flatMap_append]; simp
theorem range_split {α : Type} (g : Nat → List α) {k n : Nat} (h : k ≤ n) : ∃ r, (List.range n).flatMap g = (List.range k).flatMap g ++ r := by
  obtain ⟨d, rfl⟩ : ∃ d, n = k + d := ⟨n - k, by omega⟩
  rw [List.range_add, List.flatMap_append]
  exact ⟨_, rfl⟩
theorem child_ok {t : Town} {last : List Nat → Bool} {m : Nat} {p : List Nat} {k : Nat} (h : ∀ j, j < p.length → ¬ (per p j = k ∧ whyF t j p.length ≠ 0)) : childF t last m p k = dfsF (apartF t) last m (p ++ [k]) ∧ (List.range p.length).all (fun j => !(p[j]? == some k && apartF t j p.length)) = true := by
  have e : (List.range p.length).all (fun j => !(p[j]? == some k && apartF t j p.length)) = true := by
    rw [List.all_eq_true]
    intro j hj
    rw [List.mem_range] at hj
    have := h j hj
    rw [get_per hj, Bool.not_eq_true', Bool.and_eq_false_iff]
    by_cases e : per p j = k
    · right
      have hw : whyF t j p.length = 0 := Decidable.byContradiction fun hw => this ⟨e, hw⟩
      simp [hw]
    · left; simp [e]
  unfold childF
  exact ⟨by rw [if_pos e], e⟩
theorem child_no {t : Town} {last : List Nat → Bool} {m : Nat} {p : List Nat} {k j : Nat} (hj : j < p.length) (h1 : per p j = k) (h2 : whyF t j p.length ≠ 0) : childF t last m p k = [] := by
  unfold childF
  rw [if_neg]
  intro h
  rw [List.all_eq_true] at h
  have := h j (List.mem_range.2 hj)
  rw [get_per hj] at this
  simp [h1, h2] at this
theorem permN (A B : Nat × HObj) (u w : Heap) : (u ++ (A :: B :: w)).Perm ((u ++ w) ++ [A, B]) := by
  rw [List.append_assoc]
  exact (List.perm_append_comm (l₁ := [A, B]) (l₂ := w)).append_left u
section
variable {t : Town} (h : t.OK) (but : Int) (g1 g2 l bp bn : Nat) {X : Type} (f : X → List Nat → J × X) (W : J → X → Heap) (x0 : X)
def YOK (t : Town) (g1 g2 l : Nat) {X : Type} (f : X → List Nat → J × X) (W : J → X → Heap) (x0 : X) (L : List (List Nat)) : Prop :=
  ∀ L1 p L2, L = L1 ++ p :: L2 → (runL f L1 x0).1 = .go → ∀ m : MS t, EvY Tryz.prog l [.agg (pcells p), I (cnt p : Nat)] (m.heap g1 g2 ++ W .go (runL f L1 x0).2)
    (fun res Ho => ∃ m' : MS t, res = B (f (runL f L1 x0).2 p).1.on ∧ Ho = m'.heap g1 g2 ++ W (f (runL f L1 x0).2 p).1 (f (runL f L1 x0).2 p).2)
def NRes (t : Town) (but : Int) (g1 g2 l bp bn : Nat) {X : Type} (W : J → X → Heap) (p : List Nat) (res : J × X) (r : AV) (Ho : Heap) : Prop :=
  ∃ (m' : MS t) (a' : Nat → Nat), r = B res.1.on ∧ Ho = m'.heap g1 g2 ++ (NT t but g1 g2 l bp bn a' ++ W res.1 res.2) ∧ (res.1 = .go → a' = per p)
theorem retN {t : Town} {but : Int} {g1 g2 l bp bn : Nat} {X : Type} {W : J → X → Heap} {p : List Nat} {res : J × X} {env : Env} {m : MS t} {a : Nat → Nat} (h8 : env 8 = B res.1.on) (ha : res.1 = .go → a = per p) :
    retR Tryz.prog [.tmp 8] (NRes t but g1 g2 l bp bn W p res) .ret env (m.heap g1 g2 ++ (NT t but g1 g2 l bp bn a ++ W res.1 res.2)) [] :=
  ⟨.inr rfl, _, _, _, rfl, .one (.tmp h8 rfl), ⟨m, a, rfl, rfl, ha⟩, List.Sublist.refl _⟩
include h
theorem next_base {L : List (List Nat)} (hy : YOK t g1 g2 l f W x0 L) {p : List Nat} {L1 L2 : List (List Nat)} (hl : p.length = t.ms.length) (hg : Grp t.ms.length p) (hp : pairsB (apartF t) p = true) (hL : L = L1 ++ dfsF (apartF t) (lastB t) 0 p ++ L2)
    (hgo : (runL f L1 x0).1 = .go) (m : MS t) : EvR Tryz.prog 135 [I (p.length : Nat), I (cnt p : Nat), .pi [tp t but g1 g2], .po bp 0, .pi [Yv l], .po bn 0] (m.heap g1 g2 ++ (NT t but g1 g2 l bp bn (per p) ++ W .go (runL f L1 x0).2))
      (NRes t but g1 g2 l bp bn W p (runL f (L1 ++ dfsF (apartF t) (lastB t) 0 p) x0)) := by
  have hln : ((t.ms.map Men.enc).length : Int) = t.ms.length := by simp
  have hk1 := kin1_of h hl hp
  obtain ⟨hpo, hp6⟩ := perOK_of h.ms6 hg
  have hfa := fathered_ev h but g1 g2 (p := p) hp6
  have hcase : (lastB t p = false ∧ runL f (L1 ++ dfsF (apartF t) (lastB t) 0 p) x0 = runL f L1 x0) ∨ (lastB t p = true ∧ L = L1 ++ p :: L2 ∧ runL f (L1 ++ dfsF (apartF t) (lastB t) 0 p) x0 = f (runL f L1 x0).2 p) := by
    simp only [dfsF] at hL ⊢
    cases hb : lastB t p with
    | false =>
      left
      rw [if_neg (by decide), List.append_nil]
      exact ⟨rfl, rfl⟩
    | true =>
      right
      rw [hb, if_pos rfl] at hL
      rw [if_pos rfl, runL_app hgo, runL_one]
      exact ⟨rfl, by rw [hL]; simp, rfl⟩
  have hlast : lastB t p = (!emptyS (yearsW t p 6) && kinB t p) := rfl
  generalize runL f (L1 ++ dfsF (apartF t) (lastB t) 0 p) x0 = res at hcase
  have stop : lastB t p = false → ∀ (env : Env) (m : MS t), env 8 = B true → retR Tryz.prog [.tmp 8] (NRes t but g1 g2 l bp bn W p res) .ret env (m.heap g1 g2 ++ (NT t but g1 g2 l bp bn (per p) ++ W .go (runL f L1 x0).2)) [] := by
    intro hf env m h8
    rcases hcase with ⟨_, e⟩ | ⟨e, _⟩
    · subst e
      have := retN (t := t) (but := but) (g1 := g1) (g2 := g2) (l := l) (bp := bp) (bn := bn) (W := W) (p := p) (res := runL f L1 x0) (env := env) (m := m) (a := per p) (by rw [h8, hgo]; rfl) (fun _ => rfl)
      rw [hgo] at this
      exact this
    · rw [hf] at e; cases e
  refine EvR.intro fn135 ?_
  refine LWp.sx (gs := []) (hs := []) rfl trivial ?_
  refine LWp.scope (LWp.seq (LWp.seq ?_))
  refine LWp.x (gs := []) (hs := []) rfl trivial ?_
  refine LWp.ite (b := true) (by show B _ = B _; refine congrArg B ?_; rw [beq_iff_eq, hln]; omega) (fun _ => ?_) (fun h => by cases h)
  refine LWp.seq (LWp.seq (LWp.ops ?_))
  refine WOps.xn (gs := []) (hs := [.at 2]) 2 rfl rfl ⟨rfl, trivial⟩ ?_
  refine WOps.cons (Op1.callR (Hin := m.heap g1 g2) (H0 := NT t but g1 g2 l bp bn (per p) ++ W .go (runL f L1 x0).2) (years_ev h but g1 g2 hg hk1 m) rfl rfl (SubL.refl _) rfl ?_)
  rintro r1 Ho1 ⟨⟨b, rfl, hb⟩, m1, rfl⟩
  refine WOps.xd (gs := []) (hs := [.lin]) rfl ⟨rfl, ⟨rfl, rfl, rfl, Nat.le_refl 12⟩, trivial⟩ ?_
  refine LWp.ent (Ent.el (l := [(0, I (p.length : Nat)), (1, I (cnt p : Nat)), (2, .pi [tp t but g1 g2]), (3, .po bp 0), (4, .pi [Yv l]), (5, .po bn 0), (10, B (!emptyS (yearsW t p 6)))]) ⟨rfl, rfl, rfl, rfl, rfl, rfl, rfl, trivial⟩) ?_
  refine LWp.cutX (fun _ : Unit => True) (fun _ => el [(0, I (p.length : Nat)), (1, I (cnt p : Nat)), (2, .pi [tp t but g1 g2]), (3, .po bp 0), (4, .pi [Yv l]), (5, .po bn 0), (34, B (!lastB t p))]) (fun _ => m1.heap g1 g2 ++ (NT t but g1 g2 l bp bn (per p) ++ W .go (runL f L1 x0).2)) (fun _ => []) ?_ ?_
  · rw [hlast]
    cases hE : emptyS (yearsW t p 6) with
    | true =>
      refine LWp.x (gs := [(29, true)]) (hs := []) rfl (by (repeat' (with_reducible apply And.intro)); (all_goals first | (with_reducible exact trivial) | (with_reducible rfl) | (with_reducible assumption) | ((with_reducible apply isB); first | exact rfl | exact beq_self_eq_true _) | omega | ((rfl)))) ?_
      exact ⟨(), trivial, Ent.el ⟨rfl, rfl, rfl, rfl, rfl, rfl, rfl, trivial⟩⟩
    | false =>
      refine LWp.x (gs := [(29, false)]) (hs := [.at 2, .ret (B (kinB t p))]) rfl (by (repeat' (with_reducible apply And.intro)); (all_goals first | (with_reducible exact trivial) | (with_reducible rfl) | (with_reducible assumption) | ((with_reducible apply isB); first | exact rfl | exact beq_self_eq_true _) | omega | ((first | rfl | exact hfa)))) ?_
      exact ⟨(), trivial, Ent.el ⟨rfl, rfl, rfl, rfl, rfl, rfl, rfl, trivial⟩⟩
  intro _ _
  refine LWp.ite (b := !lastB t p) rfl (fun hb => ?_) (fun hb => LWp.skip ?_)
  · have hb' : lastB t p = false := by simpa using hb
    refine LWp.sx (gs := []) (hs := []) rfl trivial ?_
    exact LWp.ret (stop hb' _ m1 rfl)
  · have hb' : lastB t p = true := by simpa using hb
    rcases hcase with ⟨e, _⟩ | ⟨_, eL, e⟩
    · rw [hb'] at e; cases e
    have hyp := hy L1 p L2 eL hgo m1
    rw [← e] at hyp
    refine LWp.seq (LWp.ops ?_)
    refine WOps.xn (gs := []) (hs := [.at 2]) 3 rfl rfl ⟨rfl, trivial⟩ ?_
    refine WOps.ent (Ent.perm (permN _ _ _ _)) ?_
    refine WOps.cons (Op1.callvR (Hin := m1.heap g1 g2 ++ W .go (runL f L1 x0).2) (H0 := NT t but g1 g2 l bp bn (per p)) rfl (show EvF Tryz.prog (.yield l) [] _ _ _ from ⟨rfl, hyp⟩) rfl rfl (SubL.refl _) rfl ?_)
    rintro r2 Ho2 ⟨m2, rfl, rfl⟩
    refine WOps.ent (Ent.perm (permN _ _ _ _).symm) ?_
    refine WOps.xd (gs := []) (hs := []) rfl trivial ?_
    exact LWp.ret (retN rfl (fun _ => rfl))
end
end Go.Px

namespace Go.Px
open Go.Proofs Go.MapKept
theorem retNgo {t : Town} {but : Int} {g1 g2 l bp bn : Nat} {X : Type} {W : J → X → Heap} {p : List Nat} {res : J × X} {env : Env} {m : MS t} (h8 : env 8 = B true) (hg : res.1 = .go) :
    retR Tryz.prog [.tmp 8] (NRes t but g1 g2 l bp bn W p res) .ret env (m.heap g1 g2 ++ (NT t but g1 g2 l bp bn (per p) ++ W .go res.2)) [] := by
  have := retN (t := t) (but := but) (g1 := g1) (g2 := g2) (l := l) (bp := bp) (bn := bn) (W := W) (p := p) (res := res) (env := env) (m := m) (a := per p) (by rw [h8, hg]; rfl) (fun _ => rfl)
  rw [hg] at this
  exact this
section
variable {t : Town} (h : t.OK) (but : Int) (g1 g2 l bp bn : Nat) {X : Type} (f : X → List Nat → J × X) (W : J → X → Heap) (x0 : X)
include h
theorem tnext_ev {L : List (List Nat)} (hy : YOK t g1 g2 l f W x0 L) : ∀ (mr : Nat) (p : List Nat) (L1 L2 : List (List Nat)), p.length + mr = t.ms.length → Grp p.length p → pairsB (apartF t) p = true → L = L1 ++ dfsF (apartF t) (lastB t) mr p ++ L2 →
    (runL f L1 x0).1 = .go → ∀ m : MS t, EvR Tryz.prog 135 [I (p.length : Nat), I (cnt p : Nat), .pi [tp t but g1 g2], .po bp 0, .pi [Yv l], .po bn 0] (m.heap g1 g2 ++ (NT t but g1 g2 l bp bn (per p) ++ W .go (runL f L1 x0).2))
      (NRes t but g1 g2 l bp bn W p (runL f (L1 ++ dfsF (apartF t) (lastB t) mr p) x0)) := by
  intro mr
  induction mr with
  | zero =>
    intro p L1 L2 hl hg hp hL hgo m
    rw [Nat.add_zero] at hl
    exact next_base h but g1 g2 l bp bn f W x0 hy hl (by rw [← hl]; exact hg) hp hL hgo m
  | succ mr ih =>
    intro p L1 L2 hl hg hp hL hgo m
    have hln : ((t.ms.map Men.enc).length : Int) = t.ms.length := by simp
    have hm6 := h.ms6
    have hle := hg.le
    have hat : p.length < 6 := by omega
    rw [dfs_child] at hL ⊢
    generalize hch : childF t (lastB t) mr p = ch at hL
    have hcok := fun k => child_ok (t := t) (last := lastB t) (m := mr) (p := p) (k := k)
    have hcno := fun k j => child_no (t := t) (last := lastB t) (m := mr) (p := p) (k := k) (j := j)
    rw [hch] at hcok hcno
    refine EvR.intro fn135 ?_
    refine LWp.sx (gs := []) (hs := []) rfl trivial ?_
    refine LWp.scope (LWp.seq (LWp.seq ?_))
    refine LWp.x (gs := []) (hs := []) rfl trivial ?_
    refine LWp.ite (b := false) (by show B _ = B _; refine congrArg B ?_; rw [beq_eq_false_iff_ne, hln]; omega) (fun h => by cases h) (fun _ => LWp.skip ?_)
    refine LWp.seq (LWp.label ?_)
    refine LWp.seq (LWp.seq ?_)
    refine LWp.x (gs := []) (hs := []) rfl ⟨⟨by omega, by omega⟩, trivial⟩ ?_
    let E0 : List (Nat × AV) := [(0, I (p.length : Nat)), (1, I (cnt p : Nat)), (2, .pi [tp t but g1 g2]), (3, .po bp 0), (4, .pi [Yv l]), (5, .po bn 0)]
    refine LWp.blockT (Y := MS t × (Nat → Nat)) (fun y => (runL f (L1 ++ (List.range (cnt p + 1)).flatMap ch) x0).1 = .go ∧ ∀ i, i ≠ p.length → y.2 i = per p i) (fun _ => el [(0, I (p.length : Nat)), (1, I (cnt p : Nat)), (2, .pi [tp t but g1 g2]), (3, .po bp 0), (4, .pi [Yv l]), (5, .po bn 0)])
      (fun y => y.1.heap g1 g2 ++ (NT t but g1 g2 l bp bn y.2 ++ W .go (runL f (L1 ++ (List.range (cnt p + 1)).flatMap ch) x0).2)) (fun _ => []) ?_ ?_
    · refine LWp.loopN (X := Nat × MS t × (Nat → Nat)) (fun y => y.1 ≤ cnt p + 1 ∧ (runL f (L1 ++ (List.range y.1).flatMap ch) x0).1 = .go ∧ ∀ i, i ≠ p.length → y.2.2 i = per p i)
        (fun y => el [(0, I (p.length : Nat)), (1, I (cnt p : Nat)), (2, .pi [tp t but g1 g2]), (3, .po bp 0), (4, .pi [Yv l]), (5, .po bn 0), (40, I (cnt p + 1 : Nat)), (41, I y.1)])
        (fun y => y.2.1.heap g1 g2 ++ (NT t but g1 g2 l bp bn y.2.2 ++ W .go (runL f (L1 ++ (List.range y.1).flatMap ch) x0).2)) (fun _ => []) (fun y => cnt p + 1 - y.1) (0, m, per p) ⟨by simp, by simpa using hgo, fun _ _ => rfl⟩
        (Ent.trans (Ent.ofH (by simp)) (Ent.el ⟨rfl, rfl, rfl, rfl, rfl, rfl, rfl, rfl, trivial⟩)) ?_
      rintro ⟨n, m, a⟩ ⟨hn, hgn, ha⟩
      simp only at hn hgn ha ⊢
      refine LWp.sx (gs := []) (hs := []) rfl trivial ?_
      refine LWp.seq (LWp.ite rfl (fun hc => ?_) (fun hc => ?_))
      · simp only [decide_eq_true_eq, Int.ofNat_lt] at hc
        have hflat := range_flat ch n
        refine LWp.skip (LWp.seq (LWp.block ?_))
        refine LWp.sx (gs := []) (hs := []) rfl trivial ?_
        refine LWp.seq (LWp.seq ?_)
        refine LWp.x (gs := []) (hs := []) rfl trivial ?_
        refine LWp.blockT (Y := MS t) (fun _ => ∀ j, j < p.length → ¬ (per p j = n ∧ whyF t j p.length ≠ 0)) (fun _ => el [(0, I (p.length : Nat)), (1, I (cnt p : Nat)), (2, .pi [tp t but g1 g2]), (3, .po bp 0), (4, .pi [Yv l]), (5, .po bn 0), (11, I n), (40, I (cnt p + 1 : Nat)), (41, I n)])
          (fun m => m.heap g1 g2 ++ (NT t but g1 g2 l bp bn a ++ W .go (runL f (L1 ++ (List.range n).flatMap ch) x0).2)) (fun _ => []) ?_ ?_
        · refine LWp.loopN (X := Nat × MS t) (fun y => y.1 ≤ p.length ∧ ∀ j, j < y.1 → ¬ (per p j = n ∧ whyF t j p.length ≠ 0)) (fun y => el [(0, I (p.length : Nat)), (1, I (cnt p : Nat)), (2, .pi [tp t but g1 g2]), (3, .po bp 0), (4, .pi [Yv l]), (5, .po bn 0), (11, I n), (40, I (cnt p + 1 : Nat)), (41, I n), (44, I (p.length : Nat)), (45, I y.1)])
            (fun y => y.2.heap g1 g2 ++ (NT t but g1 g2 l bp bn a ++ W .go (runL f (L1 ++ (List.range n).flatMap ch) x0).2)) (fun _ => []) (fun y => p.length - y.1) (0, m) ⟨by simp, by intro j hj; simp at hj⟩
            (Ent.el ⟨rfl, rfl, rfl, rfl, rfl, rfl, rfl, rfl, rfl, rfl, rfl, trivial⟩) ?_
          rintro ⟨k, m⟩ ⟨hk, hp2⟩
          simp only at hk hp2 ⊢
          refine LWp.sx (gs := []) (hs := []) rfl trivial ?_
          refine LWp.seq (LWp.ite rfl (fun hd => ?_) (fun hd => ?_))
          · simp only [decide_eq_true_eq, Int.ofNat_lt] at hd
            have l1 := setc_get a (k := k) (by omega)
            have hak := ha k (by omega)
            refine LWp.skip (LWp.seq (LWp.block ?_))
            refine LWp.sx (gs := []) (hs := []) rfl trivial ?_
            refine LWp.cutX (Y := MS t) (fun _ => True) (fun _ => el [(0, I (p.length : Nat)), (1, I (cnt p : Nat)), (2, .pi [tp t but g1 g2]), (3, .po bp 0), (4, .pi [Yv l]), (5, .po bn 0), (11, I n), (40, I (cnt p + 1 : Nat)), (41, I n), (44, I (p.length : Nat)), (45, I k), (59, B (decide (per p k = n ∧ whyF t k p.length ≠ 0)))])
              (fun m => m.heap g1 g2 ++ (NT t but g1 g2 l bp bn a ++ W .go (runL f (L1 ++ (List.range n).flatMap ch) x0).2)) (fun _ => []) ?_ ?_
            · by_cases hz0 : per p k = n
              · have hz : (((a k : Nat) : Int) == ((n : Nat) : Int)) = true := by rw [beq_iff_eq, hak, hz0]
                refine LWp.ops ?_
                refine WOps.xn (gs := [(53, true)]) (hs := [.atv 2 (I (a k : Nat))]) 9 rfl rfl (by (repeat' (with_reducible apply And.intro)); (all_goals first | (with_reducible exact trivial) | (with_reducible rfl) | (with_reducible assumption) | ((with_reducible apply isB); first | exact rfl | exact beq_self_eq_true _) | omega | ((first | exact l1 | rfl)))) ?_
                refine WOps.yes (congrArg B hz) (Op1.callR (Hin := m.heap g1 g2) (H0 := NT t but g1 g2 l bp bn a ++ W .go (runL f (L1 ++ (List.range n).flatMap ch) x0).2) (why_ev h but g1 g2 (a := k) (b := p.length) (by omega) (by omega) m) rfl rfl (SubL.refl _) rfl ?_)
                rintro res Hout ⟨rfl, m', rfl⟩
                refine WOps.xd (gs := [(53, true)]) (hs := []) rfl (by (repeat' (with_reducible apply And.intro)); (all_goals first | (with_reducible exact trivial) | (with_reducible rfl) | (with_reducible assumption) | ((with_reducible apply isB); first | exact rfl | exact beq_self_eq_true _) | omega | ((rfl)))) ?_
                refine ⟨m', trivial, Ent.el ⟨rfl, rfl, rfl, rfl, rfl, rfl, rfl, rfl, rfl, rfl, rfl, ?_, trivial⟩⟩
                show B (whyF t k p.length != 0) = B _
                refine congrArg B ?_
                rw [Bool.eq_iff_iff, bne_iff_ne, decide_eq_true_iff]
                exact ⟨fun h => ⟨hz0, h⟩, fun h => h.2⟩
              · have hz : (((a k : Nat) : Int) == ((n : Nat) : Int)) = false := by rw [beq_eq_false_iff_ne, hak]; omega
                refine LWp.x (gs := [(53, false)]) (hs := [.atv 2 (I (a k : Nat))]) rfl (by (repeat' (with_reducible apply And.intro)); (all_goals first | (with_reducible exact trivial) | (with_reducible rfl) | (with_reducible assumption) | ((with_reducible apply isB); first | exact rfl | exact beq_self_eq_true _) | omega | ((first | exact l1 | rfl)))) ?_
                refine ⟨m, trivial, Ent.el ⟨rfl, rfl, rfl, rfl, rfl, rfl, rfl, rfl, rfl, rfl, rfl, ?_, trivial⟩⟩
                show B false = B _
                refine congrArg B ?_
                symm
                rw [decide_eq_false_iff_not]
                exact fun h => hz0 h.1
            intro m _
            refine LWp.ite rfl (fun hb => ?_) (fun hb => LWp.skip ?_)
            · rw [decide_eq_true_iff] at hb
              have hno := hcno n k (by omega) hb.1 hb.2
              rw [hno, List.append_nil] at hflat
              refine LWp.exit ?_
              refine LWp.x (gs := []) (hs := []) rfl ⟨by omega, trivial⟩ ?_
              refine ⟨(n + 1, m, a), ⟨by simp only; omega, by simp only; rw [hflat]; exact hgn, ha⟩, by simp only; omega, Ent.trans (Ent.ofH ?_) (Ent.el ⟨rfl, rfl, rfl, rfl, rfl, rfl, rfl, rfl, trivial⟩)⟩
              simp only
              rw [hflat]
            · rw [decide_eq_false_iff_not] at hb
              refine LWp.x (gs := []) (hs := []) rfl ⟨by omega, trivial⟩ ?_
              refine ⟨(k + 1, m), ⟨by simp only; omega, fun j hj => ?_⟩, by simp only; omega, Ent.el ⟨rfl, rfl, rfl, rfl, rfl, rfl, rfl, rfl, rfl, rfl, rfl, trivial⟩⟩
              simp only at hj
              by_cases e : j = k
              · rw [e]; exact hb
              · exact hp2 j (by omega)
          · simp only [decide_eq_false_iff_not, Int.ofNat_lt] at hd
            refine LWp.exit ⟨m, fun j hj => hp2 j (by omega), Ent.el ⟨rfl, rfl, rfl, rfl, rfl, rfl, rfl, rfl, rfl, trivial⟩⟩
        · intro m hno
          obtain ⟨hce, hcall⟩ := hcok n hno
          refine LWp.shx (gs := []) (hs := [.stO 2]) rfl ⟨⟨by omega, by omega⟩, ⟨rfl, rfl, rfl, rfl, by show 0 + ((p.length : Nat) : Int).toNat * 1 + 1 ≤ 6; omega⟩, trivial⟩ ?_
          have ea : (fun j => if j = p.length then n else a j) = per (p ++ [n]) := by
            funext j
            rw [per_snoc]
            by_cases ej : j = p.length
            · rw [if_pos ej, if_neg (by omega), if_pos ej]
            · rw [if_neg ej, ha j ej]
              by_cases ej2 : j < p.length
              · rw [if_pos ej2]
              · rw [if_neg ej2, if_neg ej, per_len p ej2]
          refine LWp.ent (Ent.ofH (H' := m.heap g1 g2 ++ (NT t but g1 g2 l bp bn (per (p ++ [n])) ++ W .go (runL f (L1 ++ (List.range n).flatMap ch) x0).2)) ?_) ?_
          · show (g1, HObj.map m.c) :: (g2, HObj.map m.k) :: (bp, HObj.cells _ (setSeg (setc a) (0 + p.length * 1) [I (n : Nat)])) :: _ = _
            rw [setc_set _ _ hat, ea]
            rfl
          obtain ⟨r, hr⟩ := range_split ch (k := n + 1) (n := cnt p + 1) (by omega)
          have hgrp : Grp (p ++ [n]).length (p ++ [n]) := by
            rw [List.length_append, List.length_singleton]
            exact grp_snoc hg (by omega)
          have hpairs : pairsB (apartF t) (p ++ [n]) = true := by rw [pairsB_snoc, hp, hcall]; rfl
          have hr2 := runL_app (f := f) (b := ch n) hgn
          have ihn := ih (p ++ [n]) (L1 ++ (List.range n).flatMap ch) (r ++ L2) (by rw [List.length_append, List.length_singleton]; omega) hgrp hpairs (by rw [hL, hr, hflat, ← hce]; simp only [List.append_assoc]) hgn m
          rw [← hce] at ihn
          have e1 : (((p ++ [n]).length : Nat) : Int) = ((p.length : Nat) : Int) + 1 := by rw [List.length_append, List.length_singleton]; omega
          have e2 : ((cnt (p ++ [n]) : Nat) : Int) = max ((cnt p : Nat) : Int) (((n : Nat) : Int) + 1) := by rw [cnt_snoc]; omega
          rw [e1, e2] at ihn
          have hfin : (runL f (L1 ++ (List.range n).flatMap ch ++ ch n) x0).1 ≠ .go → runL f (L1 ++ (List.range (cnt p + 1)).flatMap ch) x0 = runL f (L1 ++ (List.range n).flatMap ch ++ ch n) x0 := by
            intro hne
            rw [hr, hflat, ← List.append_assoc, ← List.append_assoc]
            exact runL_stop hne
          have hL2 : L1 ++ (List.range (n + 1)).flatMap ch = L1 ++ (List.range n).flatMap ch ++ ch n := by rw [hflat, List.append_assoc]
          rw [← hL2] at ihn hfin
          refine LWp.seq (LWp.ops ?_)
          refine WOps.xn (gs := []) (hs := [.at 3]) 7 rfl rfl ⟨rfl, ⟨by omega, by omega⟩, ⟨by omega, by omega⟩, trivial⟩ ?_
          refine WOps.cons (Op1.callvR (Hin := m.heap g1 g2 ++ (NT t but g1 g2 l bp bn (per (p ++ [n])) ++ W .go (runL f (L1 ++ (List.range n).flatMap ch) x0).2)) (H0 := []) rfl (show EvR Tryz.prog 135 _ _ _ from ihn) rfl rfl (SubL.refl _) (by simp) ?_)
          rintro res Hout ⟨m', a', rfl, rfl, ha'⟩
          refine WOps.xd (gs := []) (hs := []) rfl trivial ?_
          cases hj : (runL f (L1 ++ (List.range (n + 1)).flatMap ch) x0).1.on with
          | false =>
            have hne : (runL f (L1 ++ (List.range (n + 1)).flatMap ch) x0).1 ≠ .go := fun e => by rw [e] at hj; cases hj
            refine LWp.ite (b := true) rfl (fun _ => ?_) (fun h => by cases h)
            refine LWp.ent (Ent.ofH (List.append_nil _)) ?_
            refine LWp.sx (gs := []) (hs := []) rfl trivial ?_
            rw [hfin hne]
            refine LWp.ret (retN ?_ (fun e => absurd e hne))
            show B false = B _
            rw [hj]
          | true =>
            have hgo2 := j_on.1 hj
            refine LWp.ite (b := false) rfl (fun h => by cases h) (fun _ => LWp.skip ?_)
            refine LWp.x (gs := []) (hs := []) rfl ⟨by omega, trivial⟩ ?_
            refine ⟨(n + 1, m', a'), ⟨by simp only; omega, hgo2, fun i hi => ?_⟩, by simp only; omega, Ent.trans (Ent.ofH ?_) (Ent.el ⟨rfl, rfl, rfl, rfl, rfl, rfl, rfl, rfl, trivial⟩)⟩
            · simp only
              rw [ha' hgo2, per_snoc]
              by_cases e : i < p.length
              · rw [if_pos e]
              · rw [if_neg e, if_neg hi, per_len p e]
            · simp only
              rw [hgo2, List.append_nil]
      · simp only [decide_eq_false_iff_not, Int.ofNat_lt] at hc
        have e : n = cnt p + 1 := by omega
        subst e
        exact LWp.exit ⟨(m, a), ⟨hgn, ha⟩, Ent.el ⟨rfl, rfl, rfl, rfl, rfl, rfl, trivial⟩⟩
    · rintro ⟨m, a⟩ ⟨hgn, ha⟩
      simp only at hgn ha ⊢
      refine LWp.shx (gs := []) (hs := [.stO 2]) rfl ⟨⟨by omega, by omega⟩, ⟨rfl, rfl, rfl, rfl, by show 0 + ((p.length : Nat) : Int).toNat * 1 + 1 ≤ 6; omega⟩, trivial⟩ ?_
      have e : (fun j => if j = p.length then 0 else a j) = per p := by
        funext j
        by_cases ej : j = p.length
        · rw [if_pos ej, ej, per_len p (by omega)]
        · rw [if_neg ej, ha j ej]
      refine LWp.ent (Ent.ofH (H' := m.heap g1 g2 ++ (NT t but g1 g2 l bp bn (per p) ++ W .go (runL f (L1 ++ (List.range (cnt p + 1)).flatMap ch) x0).2)) ?_) ?_
      · show (g1, HObj.map m.c) :: (g2, HObj.map m.k) :: (bp, HObj.cells _ (setSeg (setc a) (0 + p.length * 1) [I (0 : Nat)])) :: _ = _
        rw [setc_set _ _ hat, e]
        rfl
      refine LWp.sx (gs := []) (hs := []) rfl trivial ?_
      exact LWp.ret (retNgo rfl hgn)
end
end Go.Px

namespace Go.Px
open Go.Proofs Go.MapKept
section
variable {t : Town} (h : t.OK) (but : Int) (g1 g2 l : Nat) {X : Type} (f : X → List Nat → J × X) (W : J → X → Heap) (x0 : X)
include h
theorem truths1_ev (hy : YOK t g1 g2 l f W x0 (searchL t)) (m : MS t) : EvR Tryz.prog 134 [Yv l, .pi [tp t but g1 g2]] (m.heap g1 g2 ++ W .go x0)
    (fun _ Ho => ∃ m' : MS t, Ho = m'.heap g1 g2 ++ W (runL f (searchL t) x0).1 (runL f (searchL t) x0).2) := by
  refine EvR.intro fn134 ?_
  refine LWp.sx (gs := []) (hs := [.ice]) rfl ⟨⟨rfl, rfl⟩, trivial⟩ ?_
  refine LWp.sx (gs := []) (hs := [.lin]) rfl ⟨rfl, trivial⟩ ?_
  refine LWp.shareB (t := 3) rfl fun bp => ?_
  refine LWp.sx (gs := []) (hs := [.lin]) rfl ⟨rfl, trivial⟩ ?_
  refine LWp.shareB (t := 4) rfl fun bn => ?_
  refine LWp.shx (gs := []) (hs := [.stO 0]) rfl ⟨⟨rfl, rfl, rfl, rfl, Nat.le_refl 1⟩, trivial⟩ ?_
  refine LWp.ent (Ent.trans (Ent.ofH (H' := (bn, .cells 69 [nextV t but g1 g2 l bp bn]) :: (bp, .cells 95 (setc (per []))) :: (m.heap g1 g2 ++ W .go x0)) rfl) (Ent.perm (H' := m.heap g1 g2 ++ (NT t but g1 g2 l bp bn (per []) ++ W .go x0)) ?_)) ?_
  · refine (List.Perm.swap _ _ _).trans ?_
    rw [← List.append_assoc]
    exact (List.perm_append_comm (l₁ := [_, _]) (l₂ := m.heap g1 g2)).append_right _ |>.trans (by rw [List.append_assoc])
  refine LWp.ops ?_
  refine WOps.xn (gs := []) (hs := [.at 3]) 1 rfl rfl ⟨rfl, trivial⟩ ?_
  have hs : searchL t = dfsF (apartF t) (lastB t) t.ms.length [] := rfl
  refine WOps.cons (Op1.callvR (Hin := m.heap g1 g2 ++ (NT t but g1 g2 l bp bn (per []) ++ W .go x0)) (H0 := []) rfl
    (show EvR Tryz.prog 135 _ _ _ from tnext_ev h but g1 g2 l bp bn f W x0 hy t.ms.length [] [] [] (by simp) grp_nil rfl (by rw [hs]; simp) rfl m) rfl rfl (SubL.refl _) (by simp) ?_)
  rintro res Hout ⟨m', a', rfl, rfl, _⟩
  refine WOps.nil ?_
  rw [List.nil_append, ← hs]
  exact ⟨.inl rfl, _, .tup [], m'.heap g1 g2 ++ W (runL f (searchL t) x0).1 (runL f (searchL t) x0).2, rfl, .many (by decide) trivial, ⟨m', rfl⟩, by
    rw [List.append_nil]
    exact List.Sublist.append (List.Sublist.refl _) (List.sublist_append_right _ _)⟩
end
theorem truths_ev (t : Town) (but : Int) (g1 g2 : Nat) : Ev Tryz.prog 106 [tp t but g1 g2] (.fn (.func 134) [] [.pi [tp t but g1 g2]]) := by
  refine Ev.intro fn106 ?_
  refine LWp.sx (gs := []) (hs := [.ice]) rfl ⟨⟨rfl, rfl⟩, trivial⟩ ?_
  refine LWp.sx (gs := []) (hs := []) rfl trivial ?_
  refine LWp.ret (retT (.inr rfl) (.one (.tmp ?_ rfl)))
  rfl
theorem fair_ev (t : Town) (but : Int) (g1 g2 : Nat) : Ev Tryz.prog 60 [tp t but g1 g2] (.fn (.func 105) [] [.pi [tp t but g1 g2]]) := by
  refine Ev.intro fn60 ?_
  refine LWp.sx (gs := []) (hs := [.ice]) rfl ⟨⟨rfl, rfl⟩, trivial⟩ ?_
  refine LWp.sx (gs := []) (hs := []) rfl trivial ?_
  refine LWp.ret (retT (.inr rfl) (.one (.tmp ?_ rfl)))
  rfl
abbrev X1 (X : Type) := (J × X) × (Nat → Nat)
def sieveF {X : Type} (f : X → List Nat → J × X) (pass : List Nat → Bool) (y : X1 X) (p : List Nat) : J × X1 X :=
  if pass p = true then (match (f y.1.2 p).1 with
    | .go => (.go, ((.go, (f y.1.2 p).2), per p))
    | _ => (.ret, (f y.1.2 p, y.2)))
  else (.go, y)
def lastF (l : List (List Nat)) (a : Nat → Nat) : Nat → Nat := match l.getLast? with
  | none => a
  | some q => per q
theorem sieve_run {X : Type} (f : X → List Nat → J × X) (pass : List Nat → Bool) : ∀ (L : List (List Nat)) (x : X) (a : Nat → Nat),
    ((runL f (L.filter pass) x).1 = .go → runL (sieveF f pass) L ((.go, x), a) = (.go, ((.go, (runL f (L.filter pass) x).2), lastF (L.filter pass) a))) ∧
    ((runL f (L.filter pass) x).1 ≠ .go → (runL (sieveF f pass) L ((.go, x), a)).1 = .ret ∧ (runL (sieveF f pass) L ((.go, x), a)).2.1 = runL f (L.filter pass) x)
  | [], x, a => ⟨fun _ => rfl, fun h => absurd rfl h⟩
  | p :: L, x, a => by
    by_cases hp : pass p = true
    · rw [List.filter_cons_of_pos hp]
      rcases hf : f x p with ⟨j, x'⟩
      cases j with
      | go =>
        have hs : sieveF f pass ((.go, x), a) p = (.go, ((.go, x'), per p)) := by simp [sieveF, hp, hf]
        simp only [runL, hs, hf]
        obtain ⟨i1, i2⟩ := sieve_run f pass L x' (per p)
        refine ⟨fun h => ?_, i2⟩
        rw [i1 h]
        have e : lastF (p :: L.filter pass) a = lastF (L.filter pass) (per p) := by
          unfold lastF
          rw [List.getLast?_cons]
          cases (L.filter pass).getLast? <;> rfl
        rw [e]
      | ret =>
        have hs : sieveF f pass ((.go, x), a) p = (.ret, ((.ret, x'), a)) := by simp [sieveF, hp, hf]
        simp only [runL, hs, hf]
        exact ⟨(fun h => by cases h), fun _ => ⟨trivial, trivial⟩⟩
      | exit id =>
        have hs : sieveF f pass ((.go, x), a) p = (.ret, ((.exit id, x'), a)) := by simp [sieveF, hp, hf]
        simp only [runL, hs, hf]
        exact ⟨(fun h => by cases h), fun _ => ⟨trivial, trivial⟩⟩
    · rw [List.filter_cons_of_neg (by simpa using hp)]
      have hs : sieveF f pass ((.go, x), a) p = (.go, ((.go, x), a)) := by simp [sieveF, hp]
      simp only [runL, hs]
      exact sieve_run f pass L x a
end Go.Px

namespace Go.Px
open Go.Proofs Go.MapKept
theorem groups_nodup : ∀ n : Nat, (groupsN n).Nodup
  | 0 => by simp [groupsN]
  | n + 1 => by
    unfold List.Nodup
    simp only [groupsN]
    rw [List.pairwise_flatMap]
    refine ⟨fun p _ => ?_, ?_⟩
    · unfold nextG
      rw [List.pairwise_map]
      refine List.Pairwise.imp ?_ List.nodup_range
      intro a b hab e
      exact hab (by simpa using e)
    · refine List.Pairwise.imp_of_mem ?_ (groups_nodup n)
      intro p q hp hq hpq x hx y hy e
      simp only [nextG, List.mem_map] at hx hy
      obtain ⟨k, _, rfl⟩ := hx
      obtain ⟨k', _, rfl⟩ := hy
      have hl : p.length = q.length := by rw [(groups_grp hp).len, (groups_grp hq).len]
      exact hpq (List.append_inj e hl).1
theorem search_filter (t : Town) : searchL t = (groupsN t.ms.length).filter fun q => pairsB (apartF t) q && lastB t q := by
  unfold searchL
  rw [dfs_filter _ _ _ _ rfl, ← groups_eq]
theorem search_nodup (t : Town) : (searchL t).Nodup := by
  rw [search_filter]
  exact List.Pairwise.filter _ (groups_nodup _)
theorem search_grp {t : Town} {p : List Nat} (h : p ∈ searchL t) : Grp t.ms.length p := by
  rw [search_filter] at h
  exact groups_grp (List.mem_filter.1 h).1
def lastP (l : List (List Nat)) : List Nat := l.getLast?.getD []
theorem lastF_P (l : List (List Nat)) : lastF l (per []) = per (lastP l) := by
  unfold lastF lastP
  cases l.getLast? <;> rfl
theorem lastP_OK {t : Town} (h : t.OK) {l : List (List Nat)} (hl : ∀ q ∈ l, Grp t.ms.length q) : ∃ n, PerOK n (lastP l) := by
  unfold lastP
  cases e : l.getLast? with
  | none => exact ⟨0, rfl, by omega, fun i => by rw [per_len _ (by simp)]; omega⟩
  | some q => exact ⟨_, (perOK_of h.ms6 (hl q (List.mem_of_getLast? e))).1⟩
theorem last_ne {t : Town} (h : t.OK) {L1 L2 : List (List Nat)} {p : List Nat} (hL : searchL t = L1 ++ p :: L2) (pass : List Nat → Bool) (hc : 1 < cnt p) : pval p ≠ pval (lastP (L1.filter pass)) := by
  intro e
  have hg := search_grp (t := t) (p := p) (by rw [hL]; simp)
  have hnd := search_nodup t
  rw [hL, List.nodup_append] at hnd
  unfold lastP at e
  cases hg2 : (L1.filter pass).getLast? with
  | none =>
    rw [hg2] at e
    obtain ⟨i, hi, he⟩ := hg.on 1 hc
    have h6 := h.ms6
    simp only [pval, Option.getD_none, Value.agg.injEq, Array.mk.injEq, List.cons.injEq, Value.int.injEq, true_and, Int.natCast_inj, and_true] at e
    obtain ⟨e0, e1, e2, e3, e4, e5⟩ := e
    have hz : ∀ j, per [] j = 0 := fun j => rfl
    rw [hz] at e0 e1 e2 e3 e4 e5
    match i with
    | 0 => omega
    | 1 => omega
    | 2 => omega
    | 3 => omega
    | 4 => omega
    | 5 => omega
    | i + 6 => omega
  | some q =>
    rw [hg2] at e
    have hq : q ∈ L1 := (List.mem_filter.1 (List.mem_of_getLast? hg2)).1
    have hgq := search_grp (t := t) (p := q) (by rw [hL]; simp [hq])
    have := pval_inj h.ms6 hg.len hgq.len e
    exact hnd.2.2 q hq p (by simp) this.symm
theorem op_eqPer {d : Nat} {a b : Operand} {env : Env} {H : Heap} {p q : List Nat} {n k : Nat} (ha : evO env a = .agg (pcells p)) (hb : evO env b = .agg (pcells q)) (wx : PerOK n p) (wy : PerOK k q) (e : Bool) (he : e = true ↔ pval p = pval q) :
    ∀ (r : Option Nat) (N : Nat) (D : List Nat), Q1 Tryz.prog r N (.eqT false 95 a b) (some d) env H D [(d, B e)] := by
  intro r N D
  exact Op1.eqT (m := 5) (DD := 5) (by decide) (by kernel_rfl) (by kernel_rfl) (by kernel_rfl) (by kernel_rfl) (u := pval p) (v := pval q) (by rw [ha]; rfl) (by rw [hb]; rfl) (wideP wx) (wideP wy) e he ⟨rfl, rfl, rfl⟩
theorem pcells_inj {n : Nat} {p q : List Nat} (h6 : n ≤ 6) (hp : p.length = n) (hq : q.length = n) (e : pcells p = pcells q) : p = q := by
  refine pval_inj h6 hp hq ?_
  simp only [pcells, List.cons.injEq, AV.v.injEq, Value.int.injEq, true_and, and_true] at e
  obtain ⟨e0, e1, e2, e3, e4, e5⟩ := e
  simp only [pval, e0, e1, e2, e3, e4, e5]
end Go.Px

namespace Go.Px
open Go.Proofs Go.MapKept
theorem perm1 (A : Nat × HObj) (u w : Heap) : (u ++ (A :: w)).Perm ((u ++ w) ++ [A]) := by
  rw [List.append_assoc]
  exact (List.perm_append_comm (l₁ := [A]) (l₂ := w)).append_left u
theorem sieve_no {X : Type} {f : X → List Nat → J × X} {pass : List Nat → Bool} {y : X1 X} {p : List Nat} (h : pass p = false) : sieveF f pass y p = (.go, y) := by
  unfold sieveF; rw [h]; rfl
theorem sieve_go {X : Type} {f : X → List Nat → J × X} {pass : List Nat → Bool} {y : X1 X} {p : List Nat} (h : pass p = true) (hj : (f y.1.2 p).1 = .go) : sieveF f pass y p = (.go, ((.go, (f y.1.2 p).2), per p)) := by
  unfold sieveF; rw [h, if_pos rfl, hj]
theorem sieve_stop {X : Type} {f : X → List Nat → J × X} {pass : List Nat → Bool} {y : X1 X} {p : List Nat} (h : pass p = true) (hj : (f y.1.2 p).1 ≠ .go) : sieveF f pass y p = (.ret, (f y.1.2 p, y.2)) := by
  unfold sieveF; rw [h, if_pos rfl]
  cases hc : (f y.1.2 p).1 with
  | go => exact absurd hc hj
  | ret => rfl
  | exit id => rfl
abbrev passF (t : Town) (but : Int) : List Nat → Bool := fun p => namedF t p && tiedF t (butF but) p
theorem fairL_eq (t : Town) (but : Int) : fairL t (butF but) = (searchL t).filter (passF t but) := rfl
theorem fair1_ev {t : Town} (h : t.OK) (but : Int) (hb0 : 0 ≤ but) (hb1 : but < 9223372036854775808) (g1 g2 l2 : Nat) {X : Type} (f : X → List Nat → J × X) (W : J → X → Heap) (x0 : X) (hy : YOK t g1 g2 l2 f W x0 (fairL t (butF but))) (m : MS t) :
    EvR Tryz.prog 105 [Yv l2, .pi [tp t but g1 g2]] (m.heap g1 g2 ++ W .go x0) (fun _ Ho => ∃ m' : MS t, Ho = m'.heap g1 g2 ++ W (runL f (fairL t (butF but)) x0).1 (runL f (fairL t (butF but)) x0).2) := by
  rw [fairL_eq] at hy ⊢
  have hrun := fun L => sieve_run f (passF t but) L x0 (per [])
  refine EvR.intro fn105 ?_
  refine LWp.sx (gs := []) (hs := [.ice]) rfl ⟨⟨rfl, rfl⟩, trivial⟩ ?_
  refine LWp.sx (gs := []) (hs := [.lin]) rfl ⟨rfl, trivial⟩ ?_
  refine LWp.shareB (t := 3) rfl fun b3 => ?_
  refine LWp.ent (Ent.trans (Ent.ofH (H' := (b3, .cells 95 (setc (per []))) :: (m.heap g1 g2 ++ W .go x0)) rfl) (Ent.perm (H' := m.heap g1 g2 ++ ((b3, .cells 95 (setc (per []))) :: W .go x0)) List.perm_middle.symm)) ?_
  refine LWp.sx (gs := []) (hs := [.ret (.fn (.func 134) [] [.pi [tp t but g1 g2]])]) rfl ⟨truths_ev t but g1 g2, trivial⟩ ?_
  refine LWp.block ?_
  refine LWp.rfunJ (X := MS t × X1 X) (HS := fun y => y.1.heap g1 g2 ++ ((b3, .cells 95 (setc y.2.2)) :: W y.2.1.1 y.2.1.2)) (H0 := []) (m, ((.go, x0), per []))
    (fun j y => j = (runL (sieveF f (passF t but)) (searchL t) ((.go, x0), per [])).1 ∧ y.2 = (runL (sieveF f (passF t but)) (searchL t) ((.go, x0), per [])).2)
    (fun y args => ∃ L1 p L2, searchL t = L1 ++ p :: L2 ∧ (runL (sieveF f (passF t but)) L1 ((.go, x0), per [])).1 = .go ∧ y.2 = (runL (sieveF f (passF t but)) L1 ((.go, x0), per [])).2 ∧ args = [.agg (pcells p), I (cnt p : Nat)])
    (fun y args j y' => ∀ p, Grp t.ms.length p → args = [.agg (pcells p), I (cnt p : Nat)] → j = (sieveF f (passF t but) y.2 p).1 ∧ y'.2 = (sieveF f (passF t but) y.2 p).2)
    (el [(1, .pi [tp t but g1 g2]), (2, .pi [Yv l2]), (3, .po b3 0)]) rfl (by simp) ?_ (by decide) ?_ ?_ ?_
  · intro u
    by_cases h1 : u = 1
    · subst h1; exact .inr ⟨rfl, rfl⟩
    by_cases h2 : u = 2
    · subst h2; exact .inr ⟨rfl, rfl⟩
    by_cases h3 : u = 3
    · subst h3; exact .inr ⟨rfl, rfl⟩
    · left
      have n1 : Nat.beq u 1 = false := by rw [Bool.eq_false_iff]; intro e; exact h1 (Nat.eq_of_beq_eq_true e)
      have n2 : Nat.beq u 2 = false := by rw [Bool.eq_false_iff]; intro e; exact h2 (Nat.eq_of_beq_eq_true e)
      have n3 : Nat.beq u 3 = false := by rw [Bool.eq_false_iff]; intro e; exact h3 (Nat.eq_of_beq_eq_true e)
      simp [el, n1, n2, n3]
  · rintro l ⟨m, z⟩ args ⟨L1, p, L2, hL, hgo, hz, rfl⟩
    refine ⟨rfl, ?_⟩
    simp only at hz ⊢
    have hg := search_grp (t := t) (p := p) (by rw [hL]; simp)
    obtain ⟨hpo, hp6⟩ := perOK_of h.ms6 hg
    have hs : (runL f (L1.filter (passF t but)) x0).1 = .go := by
      apply Decidable.byContradiction
      intro hne
      rw [((hrun L1).2 hne).1] at hgo
      cases hgo
    have hyp := hy (L1.filter (passF t but)) p (L2.filter (passF t but))
    have hz2 := (hrun L1).1 hs
    rw [lastF_P] at hz2
    rw [hz2] at hz
    subst hz
    simp only
    have hne := last_ne h hL (passF t but)
    obtain ⟨nq, hq⟩ := lastP_OK h (l := L1.filter (passF t but)) (fun q hq => search_grp (by rw [hL]; exact List.mem_append_left _ (List.mem_filter.1 hq).1))
    generalize lastP (L1.filter (passF t but)) = q at *
    generalize hx : (runL f (L1.filter (passF t but)) x0).2 = x at *
    have uniq : ∀ p', Grp t.ms.length p' → ([.agg (pcells p), I (cnt p : Nat)] : List AV) = [.agg (pcells p'), I (cnt p' : Nat)] → p' = p := by
      intro p' hg' e
      simp only [List.cons.injEq, AV.agg.injEq] at e
      exact (pcells_inj h.ms6 hg.len hg'.len (by simpa using e.1)).symm
    refine LWp.sx (gs := []) (hs := [.lin]) rfl ⟨rfl, ⟨rfl, rfl, rfl, Nat.le_refl 6⟩, trivial⟩ ?_
    refine LWp.ent (Ent.freezeLbox (t := 4) rfl) ?_
    refine LWp.x (gs := []) (hs := []) rfl trivial ?_
    refine ⟨rfl, ?_⟩
    refine LWp.ent (Ent.el (l := [(1, .pi [tp t but g1 g2]), (2, .pi [Yv l2]), (3, .po b3 0), (4, .pi (pcells p)), (5, I (cnt p : Nat))]) ⟨rfl, rfl, rfl, rfl, rfl, trivial⟩) ?_
    refine LWp.block (LWp.seq (LWp.seq (LWp.ops ?_)))
    have heq : ∃ e : Bool, (e = true ↔ pval p = pval q) := by
      by_cases e : pval p = pval q
      · exact ⟨true, by simp [e]⟩
      · exact ⟨false, by simp [e]⟩
    obtain ⟨e, he⟩ := heq
    have hcn : e = true → decide (((cnt p : Nat) : Int) > 1) = false := by
      intro h1
      rw [decide_eq_false_iff_not]
      intro h2
      exact hne (by omega) (he.1 h1)
    cases e
    case' true =>
      have hcn' := hcn rfl
      refine WOps.xn (gs := [(13, true)]) (hs := [.at 2, .op (B true)]) 8 rfl rfl ⟨rfl, op_eqPer rfl rfl hpo hq _ he, rfl, rfl, rfl, trivial⟩ ?_
      refine WOps.ent (Ent.el (l := [(1, .pi [tp t but g1 g2]), (2, .pi [Yv l2]), (3, .po b3 0), (4, .pi (pcells p)), (5, I (cnt p : Nat)), (17, B false)]) ⟨rfl, rfl, rfl, rfl, rfl, congrArg B hcn', trivial⟩) ?_
    case' false =>
      refine WOps.xn (gs := [(13, false)]) (hs := [.at 2, .op (B false)]) 8 rfl rfl ⟨rfl, op_eqPer rfl rfl hpo hq _ he, rfl, rfl, rfl, trivial⟩ ?_
      refine WOps.ent (Ent.el (l := [(1, .pi [tp t but g1 g2]), (2, .pi [Yv l2]), (3, .po b3 0), (4, .pi (pcells p)), (5, I (cnt p : Nat)), (17, B false)]) ⟨rfl, rfl, rfl, rfl, rfl, rfl, trivial⟩) ?_
    all_goals
      clear hcn he
      refine WOps.xn (gs := [(17, false)]) (hs := []) 2 rfl rfl ⟨rfl, rfl, trivial⟩ ?_
      refine WOps.yes rfl (Op1.callR (Hin := m.heap g1 g2) (H0 := (b3, .cells 95 (setc (per q))) :: W .go x) (named_ev h but g1 g2 hp6 m) rfl rfl (SubL.refl _) rfl ?_)
      rintro r1 Ho1 ⟨rfl, m1, rfl⟩
      have htd := tied_ev h but hb0 hb1 g1 g2 p
      have hpass : passF t but p = (namedF t p && tiedF t (butF but) p) := rfl
      have fin : ∀ env, env 28 = B (!passF t but p) → env 1 = .pi [tp t but g1 g2] → env 2 = .pi [Yv l2] → env 3 = .po b3 0 → env 4 = .pi (pcells p) → env 5 = I (cnt p : Nat) →
          Ent env (m1.heap g1 g2 ++ ((b3, .cells 95 (setc (per q))) :: W .go x)) [] (el [(1, .pi [tp t but g1 g2]), (2, .pi [Yv l2]), (3, .po b3 0), (4, .pi (pcells p)), (5, I (cnt p : Nat)), (28, B (!passF t but p))]) (m1.heap g1 g2 ++ ((b3, .cells 95 (setc (per q))) :: W .go x)) [] :=
        fun env e28 e1 e2 e3 e4 e5 => Ent.el ⟨e1, e2, e3, e4, e5, e28, trivial⟩
      cases hN : namedF t p
      case' false =>
        refine WOps.x (gs := [(17, false), (23, true)]) (hs := []) (ls' := []) rfl (by (repeat' (with_reducible apply And.intro)); (all_goals first | (with_reducible exact trivial) | rfl)) ?_
        refine WOps.nil (LWp.ent (fin _ (by rw [hpass, hN]; rfl) rfl rfl rfl rfl rfl) ?_)
      case' true =>
        refine WOps.x (gs := [(17, false), (23, false)]) (hs := [.ret (B (tiedF t (butF but) p))]) (ls' := []) rfl (by (repeat' (with_reducible apply And.intro)); (all_goals first | (with_reducible exact trivial) | rfl | exact htd)) ?_
        refine WOps.nil (LWp.ent (fin _ (by rw [hpass, hN]; rfl) rfl rfl rfl rfl rfl) ?_)
      all_goals
        clear fin hN
        refine LWp.ite (b := !passF t but p) rfl (fun hb => ?_) (fun hb => LWp.skip ?_)
        · have hb' : passF t but p = false := by cases hv : passF t but p with
            | false => rfl
            | true => rw [hv] at hb; cases hb
          refine LWp.exit ⟨.go, (m1, ((.go, x), per q)), rfl, fun p' hg' e => ?_, List.Sublist.refl _⟩
          rw [uniq p' hg' e, sieve_no hb']
          exact ⟨rfl, rfl⟩
        · have hb' : passF t but p = true := by cases hv : passF t but p with
            | true => rfl
            | false => rw [hv] at hb; cases hb
          have hy2 := hyp (by rw [hL, List.filter_append, List.filter_cons_of_pos hb']) hs m1
          refine LWp.seq (LWp.seq (LWp.ops ?_))
          refine WOps.xn (gs := []) (hs := []) 3 rfl rfl trivial ?_
          refine WOps.ent (Ent.perm (perm1 _ _ _)) ?_
          refine WOps.cons (Op1.callvR (Hin := m1.heap g1 g2 ++ W .go x) (H0 := [(b3, .cells 95 (setc (per q)))]) rfl (show EvF Tryz.prog (.yield l2) [] _ _ _ from ⟨rfl, hy2⟩) rfl rfl (SubL.refl _) rfl ?_)
          rintro r2 Ho2 ⟨m2, rfl, rfl⟩
          refine WOps.ent (Ent.perm (perm1 _ _ _).symm) ?_
          cases hj : (f x p).1.on with
          | false =>
            have hne : (f x p).1 ≠ .go := fun e => by rw [e] at hj; cases hj
            refine WOps.xd (gs := []) (hs := []) rfl trivial ?_
            refine LWp.ite (b := true) rfl (fun _ => ?_) (fun h => by cases h)
            refine LWp.ret ⟨.ret, (m2, (f x p, per q)), rfl, fun p' hg' e => ?_, List.Sublist.refl _⟩
            rw [uniq p' hg' e, sieve_stop hb' hne]
            exact ⟨rfl, rfl⟩
          | true =>
            have hgo2 := j_on.1 hj
            refine WOps.xd (gs := []) (hs := []) rfl trivial ?_
            refine LWp.ite (b := false) rfl (fun h => by cases h) (fun _ => LWp.skip ?_)
            refine LWp.hx (gs := []) (hs := [.stO 2]) rfl ⟨⟨rfl, rfl, rfl, rfl, Nat.le_refl 6⟩, trivial⟩ ?_
            refine ⟨.go, (m2, ((.go, (f x p).2), per p)), rfl, fun p' hg' e => ?_, ?_⟩
            · rw [uniq p' hg' e, sieve_go hb' hgo2]
              exact ⟨rfl, rfl⟩
            · rw [hgo2]
              exact List.Sublist.refl _
  · intro l lo hE
    have hYOK : YOK t g1 g2 l (sieveF f (passF t but)) (fun j y => (l, lo j) :: (b3, .cells 95 (setc y.2)) :: W y.1.1 y.1.2) ((.go, x0), per []) (searchL t) := by
      intro L1 p L2 hL hgo m
      refine (hE (m, (runL (sieveF f (passF t but)) L1 ((.go, x0), per [])).2) _ ⟨L1, p, L2, hL, hgo, rfl, rfl⟩).perm List.perm_middle.symm ?_
      rintro r Ho ⟨j, y', hZ, rfl, rfl⟩
      obtain ⟨e1, e2⟩ := hZ p (search_grp (by rw [hL]; simp)) rfl
      simp only at e1 e2
      refine ⟨_, List.perm_middle.symm, y'.1, by rw [e1], ?_⟩
      rw [e1, e2]
    have hT := truths1_ev h but g1 g2 l _ _ _ hYOK m
    refine hT.perm List.perm_middle ?_
    rintro r Ho ⟨m', rfl⟩
    exact ⟨_, List.perm_middle, (runL (sieveF f (passF t but)) (searchL t) ((.go, x0), per [])).1, (m', (runL (sieveF f (passF t but)) (searchL t) ((.go, x0), per [])).2), ⟨rfl, rfl⟩, rfl⟩
  · rintro j ⟨m', y⟩ rD ⟨rfl, hy2⟩
    simp only at hy2 ⊢
    subst hy2
    by_cases hs : (runL f ((searchL t).filter (passF t but)) x0).1 = .go
    · rw [(hrun _).1 hs]
      refine ⟨.inl rfl, _, .tup [], m'.heap g1 g2 ++ W (runL f ((searchL t).filter (passF t but)) x0).1 (runL f ((searchL t).filter (passF t but)) x0).2, ⟨0, rfl, rfl⟩, .many (by decide) trivial, ⟨m', rfl⟩, ?_⟩
      rw [hs, List.append_nil]
      exact List.Sublist.append (List.Sublist.refl _) (List.sublist_cons_self _ _)
    · obtain ⟨e1, e2⟩ := (hrun _).2 hs
      rw [e1, e2]
      refine ⟨.inr rfl, _, .tup [], m'.heap g1 g2 ++ W (runL f ((searchL t).filter (passF t but)) x0).1 (runL f ((searchL t).filter (passF t but)) x0).2, ⟨0, rfl, rfl⟩, .many (by decide) trivial, ⟨m', rfl⟩, ?_⟩
      rw [List.append_nil]
      exact List.Sublist.append (List.Sublist.refl _) (List.sublist_cons_self _ _)
end Go.Px

namespace Go.Px
open Go.Proofs Go.MapKept
theorem LWp.fair {t : Town} (h : t.OK) {but : Int} (hb0 : 0 ≤ but) (hb1 : but < 9223372036854775808) {g1 g2 N : Nat} {X : Type} (f : X → List Nat → J × X) (U : X → Heap) (x0 : X) {env : Env} {H H0 : Heap} {D : List Nat} {Q : Post} {fo : Operand} {ps : List Nat} {la lb : LCode} (m : MS t) (env0 : Env)
    (hx : evO env fo = .fn (.func 105) [] [.pi [tp t but g1 g2]]) (hH : H = m.heap g1 g2 ++ U x0 ++ H0) (h0 : ∀ u, env0 u = .any ∨ (env0 u = env u ∧ (env u).isLin = false)) (hps : ∀ u ∈ ps, u < N) (hpl : ps.length = 2)
    (hbody : ∀ l L1 p L2 m', fairL t (butF but) = L1 ++ p :: L2 → (runL f L1 x0).1 = .go → Grp t.ms.length p →
      LWp Tryz.prog (some l) N la (fun e env' H' D' => e = .normal ∧ LWp Tryz.prog (some l) N lb (fun e _ H' _ => e = (f (runL f L1 x0).2 p).1.ex ∧ ∃ m'' : MS t, (m''.heap g1 g2 ++ U (f (runL f L1 x0).2 p).2).Sublist H') env' H' D') (setPs ps [.agg (pcells p), I (cnt p : Nat)] env0) ((m' : MS t).heap g1 g2 ++ U (runL f L1 x0).2) [])
    (k : ∀ (m' : MS t) rD, Q (runL f (fairL t (butF but)) x0).1.ex env ((rD, .dfr) :: (m'.heap g1 g2 ++ U (runL f (fairL t (butF but)) x0).2 ++ H0)) (rD :: D)) : LWp Tryz.prog none N (.rfun fo ps la lb) Q env H D := by
  have hgrp : ∀ {p}, p ∈ fairL t (butF but) → Grp t.ms.length p := fun hp => search_grp (List.mem_filter.1 hp).1
  refine LWp.rfunJ (X := MS t × X) (HS := fun y => y.1.heap g1 g2 ++ U y.2) (H0 := H0) (m, x0)
    (fun j y => j = (runL f (fairL t (butF but)) x0).1 ∧ y.2 = (runL f (fairL t (butF but)) x0).2)
    (fun y args => ∃ L1 p L2, fairL t (butF but) = L1 ++ p :: L2 ∧ (runL f L1 x0).1 = .go ∧ y.2 = (runL f L1 x0).2 ∧ args = [.agg (pcells p), I (cnt p : Nat)])
    (fun y args j y' => ∀ p, Grp t.ms.length p → args = [.agg (pcells p), I (cnt p : Nat)] → j = (f y.2 p).1 ∧ y'.2 = (f y.2 p).2)
    env0 hx hH h0 hps ?_ ?_ ?_
  · rintro l ⟨m, z⟩ args ⟨L1, p, L2, hL, hgo, hz, rfl⟩
    simp only at hz ⊢
    subst hz
    have hg := hgrp (p := p) (by rw [hL]; simp)
    refine ⟨by simp [hpl], (hbody l L1 p L2 m hL hgo hg).mono ?_⟩
    rintro e env' H' D' ⟨rfl, hw⟩
    refine ⟨rfl, hw.mono ?_⟩
    rintro e env'' H'' D'' ⟨rfl, m'', hsub⟩
    refine ⟨_, (m'', _), rfl, fun p' hg' he => ?_, hsub⟩
    simp only [List.cons.injEq, AV.agg.injEq] at he
    rw [pcells_inj h.ms6 hg.len hg'.len (by simpa using he.1)]
    exact ⟨rfl, rfl⟩
  · intro l lo hE
    have hYOK : YOK t g1 g2 l f (fun j y => (l, lo j) :: U y) x0 (fairL t (butF but)) := by
      intro L1 p L2 hL hgo m
      refine (hE (m, (runL f L1 x0).2) _ ⟨L1, p, L2, hL, hgo, rfl, rfl⟩).perm List.perm_middle.symm ?_
      rintro r Ho ⟨j, y', hZ, rfl, rfl⟩
      obtain ⟨e1, e2⟩ := hZ p (hgrp (by rw [hL]; simp)) rfl
      simp only at e1 e2
      refine ⟨_, List.perm_middle.symm, y'.1, by rw [e1], ?_⟩
      rw [e1, e2]
    refine (fair1_ev h but hb0 hb1 g1 g2 l f _ x0 hYOK m).perm List.perm_middle ?_
    rintro r Ho ⟨m', rfl⟩
    exact ⟨_, List.perm_middle, _, (m', _), ⟨rfl, rfl⟩, rfl⟩
  · rintro j ⟨m', y⟩ rD ⟨rfl, hy2⟩
    simp only at hy2 ⊢
    subst hy2
    exact k m' rD
theorem el_any {env : Env} {l : List (Nat × AV)} (h : ElOK env l) (hl : l.all (fun x => !x.2.isLin) = true) : ∀ u, el l u = .any ∨ (el l u = env u ∧ (env u).isLin = false) := by
  induction l with
  | nil => intro u; exact .inl rfl
  | cons x l ih =>
    obtain ⟨t, p⟩ := x
    intro u
    simp only [List.all_cons, Bool.and_eq_true] at hl
    simp only [el]
    cases e : Nat.beq u t with
    | true =>
      have e' := Nat.eq_of_beq_eq_true e
      subst e'
      right
      have h1 := h.1
      refine ⟨by rw [h1]; rfl, ?_⟩
      rw [h1]
      simpa using hl.1
    | false => exact ih h.2 hl.2 u
theorem some_run : ∀ L : List (List Nat), runL (fun (_ : Bool) (_ : List Nat) => (J.ret, true)) L false = (if L.isEmpty = true then .go else .ret, !L.isEmpty)
  | [] => rfl
  | _p :: _L => rfl
theorem some_ev {t : Town} (h : t.OK) {but : Int} (hb0 : 0 ≤ but) (hb1 : but < 9223372036854775808) (g1 g2 : Nat) (m : MS t) : EvR Tryz.prog 81 [tp t but g1 g2] (m.heap g1 g2) (MRes t g1 g2 (B (!(fairL t (butF but)).isEmpty))) := by
  refine EvR.intro fn81 ?_
  refine LWp.sx (gs := []) (hs := [.lin]) rfl ⟨rfl, trivial⟩ ?_
  refine LWp.shareB (t := 2) rfl fun b2 => ?_
  refine LWp.seq (LWp.seq ?_)
  refine LWp.x (gs := []) (hs := [.ret (.fn (.func 105) [] [.pi [tp t but g1 g2]])]) rfl ⟨fair_ev t but g1 g2, trivial⟩ ?_
  refine LWp.ent (Ent.trans (Ent.ofH (H' := (b2, .cells 4 [B false]) :: (m.heap g1 g2)) rfl) (Ent.perm (H' := m.heap g1 g2 ++ [(b2, .cells 4 [B false])]) (List.perm_append_comm (l₁ := [_])))) ?_
  refine LWp.block ?_
  have hR := some_run (fairL t (butF but))
  refine LWp.fair h hb0 hb1 (X := Bool) (fun _ _ => (.ret, true)) (fun x => [(b2, .cells 4 [B x])]) false (H0 := []) m (el [(2, .po b2 0)]) rfl (by simp) (el_any ⟨rfl, trivial⟩ rfl) (by decide) rfl ?_ ?_
  · intro l L1 p L2 m' hL hgo hg
    have hx : (runL (fun (_ : Bool) (_ : List Nat) => (J.ret, true)) L1 false).2 = false := by
      rw [some_run] at hgo ⊢
      simp only at hgo ⊢
      cases hE : L1.isEmpty with
      | true => rfl
      | false => rw [hE] at hgo; simp at hgo
    rw [hx]
    refine LWp.skip ⟨rfl, ?_⟩
    refine LWp.block ?_
    refine LWp.shx (gs := []) (hs := [.stO 2]) rfl ⟨⟨rfl, rfl, rfl, rfl, Nat.le_refl 1⟩, trivial⟩ ?_
    exact LWp.ret ⟨rfl, m', List.Sublist.refl _⟩
  · intro m' rD
    rw [hR]
    cases hE : (fairL t (butF but)).isEmpty with
    | true =>
      show LWp _ _ _ _ _ _ _ _
      refine LWp.shx (gs := []) (hs := [.stO 3]) rfl ⟨⟨rfl, rfl, rfl, rfl, Nat.le_refl 1⟩, trivial⟩ ?_
      refine LWp.ret ⟨.inr rfl, _, B false, m'.heap g1 g2, ⟨0, rfl, rfl⟩, .one (.cellO (n := none) (i := 2) (cs := [B false]) rfl rfl (by kernel_rfl) rfl), ⟨rfl, m', rfl⟩, ?_⟩
      exact List.sublist_append_left _ _
    | false =>
      refine ⟨.inr rfl, _, B true, m'.heap g1 g2, ⟨0, rfl, rfl⟩, .one (.cellO (n := none) (i := 2) (cs := [B true]) rfl rfl (by kernel_rfl) rfl), ⟨rfl, m', rfl⟩, ?_⟩
      exact List.sublist_append_left (m'.heap g1 g2) _
theorem plook_ev (t : Town) (but : Int) : EvR Tryz.prog 75 [.agg t.enc, I but] [] (fun r Ho => ∃ g1 g2, r = tp t but g1 g2 ∧ Ho = (MS.new t).heap g1 g2) := by
  refine EvR.intro fn75 ?_
  refine LWp.sx (gs := []) (hs := [.ice]) rfl ⟨⟨rfl, rfl⟩, trivial⟩ ?_
  refine LWp.seq (LWp.ops ?_)
  refine WOps.xn (gs := []) (hs := []) 2 rfl rfl trivial ?_
  refine WOps.cons (Op1.mmap fun g1 => ?_)
  refine WOps.cons (Op1.mmap fun g2 => ?_)
  refine WOps.xd (gs := []) (hs := [.ice]) rfl ⟨⟨rfl, rfl⟩, trivial⟩ ?_
  refine LWp.ent (Ent.perm (H' := (MS.new t).heap g1 g2) (List.Perm.swap _ _ _)) ?_
  exact LWp.ret ⟨.inr rfl, _, tp t but g1 g2, (MS.new t).heap g1 g2, rfl, .one (.tmp rfl rfl), ⟨g1, g2, rfl, rfl⟩, List.Sublist.refl _⟩
end Go.Px

namespace Go.Px
open Go.Proofs Go.MapKept
theorem beyond_iff {lo hi : Int} {l : List Int} : beyondB lo hi l = false ↔ ∀ n ∈ l, lo ≤ n ∧ n ≤ hi := by
  unfold beyondB
  rw [List.any_eq_false]
  refine forall_congr' fun n => imp_congr_right fun _ => ?_
  simp only [Bool.or_eq_true, decide_eq_true_eq]
  omega
theorem menE_zero {t : Town} {x : Men} {i : Nat} : menE t x i = 0 ↔ (0 ≤ x.sp ∧ x.sp < t.ear.ss.length) ∧ (-1 ≤ x.v ∧ x.v < t.vil) ∧ (-1 ≤ x.par ∧ x.par < t.ms.length) ∧ 0 ≤ x.lo ∧ x.lo ≤ x.hi ∧ x.hi ≤ 199 ∧ x.par ≠ i := by
  have b1 := beyond_iff (lo := 0) (hi := (t.ear.ss.length : Int) - 1) (l := [x.sp])
  have b2 := beyond_iff (lo := -1) (hi := t.vil - 1) (l := [x.v])
  have b3 := beyond_iff (lo := -1) (hi := (t.ms.length : Int) - 1) (l := [x.par])
  have b4 := beyond_iff (lo := 0) (hi := 199) (l := [x.lo, x.hi])
  simp only [List.mem_cons, List.not_mem_nil, or_false, forall_eq_or_imp, forall_eq] at b1 b2 b3 b4
  unfold menE
  cases c1 : beyondB 0 ((t.ear.ss.length : Int) - 1) [x.sp] with
  | true =>
    rw [c1] at b1
    simp only [Bool.true_or, if_true]
    constructor
    · intro h; omega
    · intro h; have := b1.2 (by omega); cases this
  | false =>
  cases c2 : beyondB (-1) (t.vil - 1) [x.v] with
  | true =>
    rw [c2] at b2
    simp only [Bool.or_true, Bool.true_or, if_true]
    constructor
    · intro h; omega
    · intro h; have := b2.2 (by omega); cases this
  | false =>
  cases c3 : beyondB (-1) ((t.ms.length : Int) - 1) [x.par] with
  | true =>
    rw [c3] at b3
    simp only [Bool.or_true, if_true]
    constructor
    · intro h; omega
    · intro h; have := b3.2 (by omega); cases this
  | false =>
  cases c4 : beyondB 0 199 [x.lo, x.hi] with
  | true =>
    rw [c4] at b4
    simp only [Bool.or_false, if_true, Bool.false_eq_true, if_false]
    constructor
    · intro h; omega
    · intro h; have := b4.2 (by omega); cases this
  | false =>
    have a1 := b1.1 c1
    have a2 := b2.1 c2
    have a3 := b3.1 c3
    have a4 := b4.1 c4
    simp only [Bool.or_false, Bool.false_eq_true, if_false]
    split
    · rename_i h
      constructor
      · intro h; omega
      · intro h; omega
    · rename_i h
      constructor
      · intro _; omega
      · intro _; rfl
theorem tieE_zero {t : Town} {x : Tie} : tieE t x = 0 ↔ 0 ≤ x.a ∧ x.a < t.ms.length ∧ 0 ≤ x.b ∧ x.b < t.ms.length ∧ x.a ≠ x.b := by
  have b1 := beyond_iff (lo := 0) (hi := (t.ms.length : Int) - 1) (l := [x.a, x.b])
  simp only [List.mem_cons, List.not_mem_nil, or_false, forall_eq_or_imp, forall_eq] at b1
  unfold tieE
  cases c1 : beyondB 0 ((t.ms.length : Int) - 1) [x.a, x.b] with
  | true =>
    rw [c1] at b1
    simp only [if_true]
    constructor
    · intro h; omega
    · intro h; have := b1.2 (by omega); cases this
  | false =>
    have a1 := b1.1 c1
    simp only [Bool.false_eq_true, if_false]
    split
    · constructor
      · intro h; omega
      · intro h; omega
    · constructor
      · intro _; omega
      · intro _; rfl
abbrev townE (t : Town) : Int := (checkT t).2.2
theorem townE_zero {t : Town} (hw : t.wf) : townE t = 0 ↔ t.OK ∧ t.ms.length ≤ 5 := by
  have b1 := beyond_iff (lo := 1) (hi := 4) (l := [t.vil])
  simp only [List.mem_cons, List.not_mem_nil, or_false, forall_eq] at b1
  have hM := failF_iff (f := menAt t) (m := t.ms.length)
  have hT := failF_iff (f := tieAt t) (m := t.ties.length)
  have hmen : (∀ j, j < t.ms.length → menAt t j = 0) ↔ ∀ (i : Nat) (x : Men), t.ms[i]? = some x → menE t x i = 0 := by
    constructor
    · intro h i x hx
      have := h i (List.getElem?_eq_some_iff.1 hx).1
      unfold menAt at this
      rw [hx] at this
      exact this
    · intro h j hj
      obtain ⟨x, hx⟩ := ex_get hj
      unfold menAt
      rw [hx]
      exact h j x hx
  have htie : (∀ j, j < t.ties.length → tieAt t j = 0) ↔ ∀ x ∈ t.ties, tieE t x = 0 := by
    constructor
    · intro h x hx
      obtain ⟨i, hi⟩ := List.getElem?_of_mem hx
      have := h i (List.getElem?_eq_some_iff.1 hi).1
      unfold tieAt at this
      rw [hi] at this
      exact this
    · intro h j hj
      obtain ⟨x, hx⟩ := ex_get hj
      unfold tieAt
      rw [hx]
      exact h x (List.mem_of_getElem? hx)
  unfold townE checkT
  by_cases h1 : (check t.ear).2.2 = 0
  case neg =>
    rw [if_pos h1]
    exact ⟨fun h => absurd h h1, fun h => absurd (valid_iff.2 h.1.ear) h1⟩
  rw [if_neg (by simp [h1])]
  cases h2 : beyondB 1 4 [t.vil] with
  | true =>
    rw [if_pos rfl]
    rw [h2] at b1
    exact ⟨fun h => by simp at h, fun h => by have := b1.2 ⟨h.1.vil0, h.1.vil1⟩; cases this⟩
  | false =>
  rw [if_neg (by decide)]
  have hv := b1.1 h2
  by_cases h3 : 5 < t.ms.length
  · rw [if_pos h3]
    exact ⟨fun h => by simp at h, fun h => by omega⟩
  rw [if_neg h3]
  by_cases h4 : (failF (menAt t) t.ms.length 0).2 = 0
  case neg =>
    rw [if_pos h4]
    refine ⟨fun h => absurd h h4, fun h => absurd (hM.2 (hmen.2 fun i x hx => menE_zero.2 ?_)) h4⟩
    have o := h.1.men i x hx
    exact ⟨⟨o.sp0, o.sp1⟩, ⟨o.v0, o.v1⟩, ⟨o.par0, o.par1⟩, o.lo0, o.lh, o.hi1, o.own⟩
  rw [if_neg (by simp [h4])]
  by_cases h5 : 4 < t.ties.length
  · rw [if_pos h5]
    exact ⟨fun h => by simp at h, fun h => by have := h.1.ties4; omega⟩
  rw [if_neg h5]
  by_cases h6 : (failF (tieAt t) t.ties.length 0).2 = 0
  case neg =>
    rw [if_pos h6]
    exact ⟨fun h => absurd h h6, fun h => absurd (hT.2 (htie.2 fun x hx => tieE_zero.2 (h.1.tie x hx))) h6⟩
  rw [if_neg (by simp [h6])]
  refine ⟨fun _ => ⟨?_, by omega⟩, fun _ => rfl⟩
  refine ⟨valid_iff.1 h1, hw.ear, hv.1, hv.2, by omega, fun i x hx => ?_, by omega, fun x hx => tieE_zero.1 (htie.1 (hT.1 h6) x hx)⟩
  obtain ⟨⟨a1, a2⟩, ⟨a3, a4⟩, ⟨a5, a6⟩, a7, a8, a9, a10⟩ := menE_zero.1 (hmen.1 (hM.1 h4) i x hx)
  exact ⟨a1, a2, a3, a4, a5, a6, a7, a8, a9, a10⟩
end Go.Px

namespace Go.Px
open Go.Proofs Go.MapKept
theorem butF_0 : butF 0 = fun _ => false := by
  funext i
  unfold butF givesB
  rw [Int.zero_ediv]
  rfl
abbrev noBut : Nat → Bool := fun _ => false
def someE (t : Town) (e : Int) : Int := if e ≠ 0 then e else if (truthsL t noBut).isEmpty = true then 8 else 0
def entE (t : Town) (e2 : Int) : Int := if townE t ≠ 0 then townE t else e2
theorem someE_zero {t : Town} {e : Int} : someE t e = 0 ↔ e = 0 ∧ truthsL t noBut ≠ [] := by
  unfold someE
  by_cases h : e = 0
  · rw [if_neg (by simp [h])]
    cases hE : truthsL t noBut with
    | nil => simp
    | cons p l => simp [h]
  · rw [if_pos h]; simp [h]
theorem entE_zero {t : Town} {e : Int} : entE t e = 0 ↔ townE t = 0 ∧ e = 0 := by
  unfold entE
  by_cases h : townE t = 0
  · rw [if_neg (by simp [h])]; simp [h]
  · rw [if_pos h]; simp [h]
theorem fine_ev : Ev Tryz.prog 59 [] (I 0) := by
  refine Ev.intro fn59 ?_
  refine LWp.sx (gs := []) (hs := []) rfl trivial ?_
  refine LWp.sx (gs := []) (hs := []) rfl trivial ?_
  refine LWp.ret (retT (.inr rfl) (.one (.tmp ?_ rfl)))
  rfl
def twoE (t : Town) (a b : Int) : Int := if beyondB 0 ((t.ms.length : Int) - 1) [a, b] = true then 4 else if a = b then 2 else 0
theorem two1_ev (t : Town) (a b : Int) (hms : t.ms.length ≤ 1000) : Ev Tryz.prog 109 [.pi t.enc, .pi [I a], .pi [I b]] (I (twoE t a b)) := by
  have hml : (t.ms.map Men.enc).length = t.ms.length := List.length_map _
  have e1 := pbeyond_ev 0 (((t.ms.map Men.enc).length : Int) - 1) [a, b]
  have hE : twoE t a b = if beyondB 0 (((t.ms.map Men.enc).length : Int) - 1) [a, b] = true then 4 else if a = b then 2 else 0 := by rw [hml]; rfl
  generalize beyondB 0 (((t.ms.map Men.enc).length : Int) - 1) [a, b] = c at e1 hE
  refine Ev.intro fn109 ?_
  refine LWp.sx (gs := []) (hs := []) rfl trivial ?_
  refine LWp.seqBlock ?_
  refine LWp.sx (gs := []) (hs := [.ice, .ret (B c)]) rfl (by (repeat' (with_reducible apply And.intro)); (all_goals first | (with_reducible exact trivial) | (with_reducible rfl) | (with_reducible assumption) | ((with_reducible apply isB); first | exact rfl | exact beq_self_eq_true _) | omega | ((first | exact e1)))) ?_
  cases c with
  | true =>
    rw [if_pos rfl] at hE
    rw [hE]
    refine LWp.ite (b := true) rfl (fun _ => ?_) (fun h => by cases h)
    refine LWp.sx (gs := []) (hs := []) rfl trivial ?_
    refine LWp.ret (retT (.inr rfl) (.one (.tmp ?_ rfl)))
    rfl
  | false =>
    rw [if_neg (by decide)] at hE
    refine LWp.ite (b := false) rfl (fun h => by cases h) (fun _ => ?_)
    refine LWp.sx (gs := []) (hs := []) rfl trivial ?_
    by_cases h : a = b
    · rw [if_pos h] at hE
      rw [hE]
      refine LWp.ite (b := true) (by show B _ = B _; exact congrArg B (by rw [beq_iff_eq]; exact h)) (fun _ => ?_) (fun h => by cases h)
      refine LWp.sx (gs := []) (hs := []) rfl trivial ?_
      refine LWp.ret (retT (.inr rfl) (.one (.tmp ?_ rfl)))
      rfl
    · rw [if_neg h] at hE
      rw [hE]
      refine LWp.ite (b := false) (by show B _ = B _; exact congrArg B (by rw [beq_eq_false_iff_ne]; exact h)) (fun h => by cases h) (fun _ => LWp.skip ?_)
      refine LWp.sx (gs := []) (hs := []) rfl trivial ?_
      refine LWp.ret (retT (.inr rfl) (.one (.tmp ?_ rfl)))
      rfl
theorem two_ev (t : Town) (a b : Int) : Ev Tryz.prog 63 [.agg t.enc, I a, I b] (.fn (.func 109) [] [.pi t.enc, .pi [I a], .pi [I b]]) := by
  refine Ev.intro fn63 ?_
  refine LWp.sx (gs := []) (hs := [.ice, .ice, .ice]) rfl ⟨⟨rfl, rfl⟩, ⟨rfl, rfl⟩, ⟨rfl, rfl⟩, trivial⟩ ?_
  refine LWp.sx (gs := []) (hs := []) rfl trivial ?_
  refine LWp.ret (retT (.inr rfl) (.one (.tmp ?_ rfl)))
  rfl
def oneE (t : Town) (m : Int) : Int := if beyondB 0 ((t.ms.length : Int) - 1) [m] = true then 4 else 0
theorem born1_ev (t : Town) (m : Int) (hms : t.ms.length ≤ 1000) : Ev Tryz.prog 71 [.pi t.enc, .pi [I m]] (I (oneE t m)) := by
  have hml : (t.ms.map Men.enc).length = t.ms.length := List.length_map _
  have e1 := pbeyond_ev 0 (((t.ms.map Men.enc).length : Int) - 1) [m]
  have hE : oneE t m = if beyondB 0 (((t.ms.map Men.enc).length : Int) - 1) [m] = true then 4 else 0 := by rw [hml]; rfl
  generalize beyondB 0 (((t.ms.map Men.enc).length : Int) - 1) [m] = c at e1 hE
  refine Ev.intro fn71 ?_
  refine LWp.sx (gs := []) (hs := []) rfl trivial ?_
  refine LWp.seq (LWp.seq ?_)
  refine LWp.x (gs := []) (hs := [.ice, .ret (B c)]) rfl (by (repeat' (with_reducible apply And.intro)); (all_goals first | (with_reducible exact trivial) | (with_reducible rfl) | (with_reducible assumption) | ((with_reducible apply isB); first | exact rfl | exact beq_self_eq_true _) | omega | ((first | exact e1)))) ?_
  cases c with
  | true =>
    rw [if_pos rfl] at hE
    rw [hE]
    refine LWp.ite (b := true) rfl (fun _ => ?_) (fun h => by cases h)
    refine LWp.sx (gs := []) (hs := []) rfl trivial ?_
    refine LWp.ret (retT (.inr rfl) (.one (.tmp ?_ rfl)))
    rfl
  | false =>
    rw [if_neg (by decide)] at hE
    rw [hE]
    refine LWp.ite (b := false) rfl (fun h => by cases h) (fun _ => LWp.skip ?_)
    refine LWp.sx (gs := []) (hs := []) rfl trivial ?_
    refine LWp.ret (retT (.inr rfl) (.one (.tmp ?_ rfl)))
    rfl
theorem who1_ev (t : Town) (x : Men) (b : Nat) (hv0 : -9223372036854775807 ≤ t.vil) (hv1 : t.vil ≤ 9223372036854775807) (hms : t.ms.length ≤ 1000) (hss : t.ear.ss.length ≤ 1000) :
    EvR Tryz.prog 77 [.po b 0, .pi x.enc] [(b, .cells 29 t.enc)] (fun r Ho => r = I (menE t x t.ms.length) ∧ Ho = [(b, .cells 29 t.enc)]) := by
  have hml : (t.ms.map Men.enc).length = t.ms.length := List.length_map _
  have e1 := mention_ev t x (((t.ms.map Men.enc).length : Nat) : Int) hv0 hv1 hms hss
  have hE : menE t x t.ms.length = menE t x (((t.ms.map Men.enc).length : Nat) : Int) := by rw [hml]
  rw [hE]
  refine EvR.intro fn77 ?_
  refine LWp.sx (gs := []) (hs := []) rfl trivial ?_
  refine LWp.sx (gs := []) (hs := [.at 0, .at 0, .ret (I (menE t x (((t.ms.map Men.enc).length : Nat) : Int)))]) rfl (by (repeat' (with_reducible apply And.intro)); (all_goals first | (with_reducible exact trivial) | (with_reducible rfl) | (with_reducible assumption) | ((with_reducible apply isB); first | exact rfl | exact beq_self_eq_true _) | omega | ((first | rfl | exact e1)))) ?_
  exact LWp.ret ⟨.inr rfl, _, _, _, rfl, .one (.tmp rfl rfl), ⟨rfl, rfl⟩, List.Sublist.refl _⟩
abbrev nilP : AV := .v (.pointer none)
def EntR (t : Town) (e2 : Int) (Hc : Heap) (r : AV) (Ho : Heap) : Prop :=
  (someE t (entE t e2) = 0 ∧ ∃ (g1 g2 : Nat) (m : MS t), r = .tup [tp t 0 g1 g2, I 0] ∧ Ho = m.heap g1 g2 ++ Hc) ∨ (someE t (entE t e2) ≠ 0 ∧ r = .tup [nilP, I (someE t (entE t e2))] ∧ Ho = Hc)
theorem retE {t : Town} {e2 : Int} {Hc : Heap} {env : Env} {x : Int} (he : someE t (entE t e2) = x) (h0 : x ≠ 0) (h4 : env 4 = nilP) (h5 : env 5 = I x) {H : Heap} (hs : Hc.Sublist H) : retR Tryz.prog [.tmp 4, .tmp 5] (EntR t e2 Hc) .ret env H [] :=
  ⟨.inr rfl, _, .tup [nilP, I x], Hc, rfl, .many (by decide) (show All2 (ResAV Tryz.prog env _) [.tmp 4, .tmp 5] [nilP, I x] from ⟨.tmp h4 rfl, .tmp h5 rfl, trivial⟩), .inr ⟨by rw [he]; exact h0, by rw [he], rfl⟩, hs⟩
theorem enterT_ev (t : Town) (hw : t.wf) (g : Nat) (caps : List AV) (e2 : Int) (Hc : Heap) (ho : townE t = 0 → EvR Tryz.prog g caps Hc (fun r Ho => r = I e2 ∧ Ho = Hc)) :
    EvR Tryz.prog 58 [.agg t.enc, .fn (.func g) [] caps] Hc (EntR t e2 Hc) := by
  have hchk := pcheck_ev t hw
  have hz := townE_zero hw
  have hte : townE t = (checkT t).2.2 := rfl
  refine EvR.intro fn58 ?_
  refine LWp.sx (gs := []) (hs := [.ice]) rfl ⟨⟨rfl, rfl⟩, trivial⟩ ?_
  refine LWp.seq (LWp.seq ?_)
  refine LWp.x (gs := []) (hs := [.ret (.tup [I (checkT t).1, I (checkT t).2.1, I (checkT t).2.2])]) rfl ⟨hchk, trivial⟩ ?_
  refine LWp.seq ?_
  refine LWp.x (gs := []) (hs := []) rfl trivial ?_
  by_cases h1 : townE t = 0
  case neg =>
    refine LWp.ite (b := true) (by show B _ = B _; exact congrArg B (by rw [bne_iff_ne]; exact h1)) (fun _ => ?_) (fun h => by cases h)
    refine LWp.sx (gs := []) (hs := []) rfl trivial ?_
    exact LWp.ret (retE (by unfold someE entE; rw [if_pos h1, if_pos h1]) h1 rfl rfl (List.Sublist.refl _))
  refine LWp.ite (b := false) (by show B _ = B _; exact congrArg B (by rw [bne_eq_false_iff_eq]; exact h1)) (fun h => by cases h) (fun _ => LWp.skip ?_)
  refine LWp.seq (LWp.seq (LWp.ops ?_))
  refine WOps.xn (gs := []) (hs := []) 1 rfl rfl trivial ?_
  refine WOps.cons (Op1.callvR (Hin := Hc) (H0 := []) rfl (show EvR Tryz.prog g caps _ _ from ho h1) rfl rfl (SubL.refl _) (by simp) ?_)
  rintro r1 Ho1 ⟨rfl, hHo⟩
  rw [hHo, List.append_nil]
  refine WOps.xd (gs := []) (hs := []) rfl trivial ?_
  refine LWp.seq ?_
  refine LWp.x (gs := []) (hs := []) rfl trivial ?_
  by_cases h2 : e2 = 0
  case neg =>
    refine LWp.ite (b := true) (by show B _ = B _; exact congrArg B (by rw [bne_iff_ne]; exact h2)) (fun _ => ?_) (fun h => by cases h)
    refine LWp.sx (gs := []) (hs := []) rfl trivial ?_
    have he : entE t e2 = e2 := by unfold entE; rw [if_neg (by simp [h1])]
    exact LWp.ret (retE (by unfold someE; rw [he, if_pos h2]) h2 rfl rfl (List.Sublist.refl _))
  refine LWp.ite (b := false) (by show B _ = B _; exact congrArg B (by rw [bne_eq_false_iff_eq]; exact h2)) (fun h => by cases h) (fun _ => LWp.skip ?_)
  have hOK := (hz.1 h1).1
  have he : entE t e2 = 0 := entE_zero.2 ⟨h1, h2⟩
  refine LWp.seq (LWp.ops ?_)
  refine WOps.xn (gs := []) (hs := []) 1 rfl rfl trivial ?_
  refine WOps.cons (Op1.callR (Hin := []) (H0 := Hc) (plook_ev t 0) rfl rfl (SubL.refl _) rfl ?_)
  rintro r2 Ho2 ⟨g1, g2, rfl, rfl⟩
  refine WOps.xd (gs := []) (hs := []) rfl trivial ?_
  refine LWp.seq (LWp.seq (LWp.ops ?_))
  refine WOps.xn (gs := []) (hs := []) 1 rfl rfl trivial ?_
  refine WOps.cons (Op1.callR (Hin := (MS.new t).heap g1 g2) (H0 := Hc) (some_ev hOK (by omega) (by omega) g1 g2 (MS.new t)) rfl rfl (SubL.refl _) rfl ?_)
  rintro r3 Ho3 ⟨rfl, m', rfl⟩
  rw [butF_0, fair_truths hOK]
  refine WOps.xd (gs := []) (hs := []) rfl trivial ?_
  cases hE : (truthsL t noBut).isEmpty with
  | true =>
    refine LWp.ite (b := true) rfl (fun _ => ?_) (fun h => by cases h)
    refine LWp.sx (gs := []) (hs := []) rfl trivial ?_
    exact LWp.ret (retE (by unfold someE; rw [if_neg (by simp [he]), if_pos hE]) (by decide) rfl rfl (List.sublist_append_right _ _))
  | false =>
    refine LWp.ite (b := false) rfl (fun h => by cases h) (fun _ => LWp.skip ?_)
    refine LWp.sx (gs := []) (hs := []) rfl trivial ?_
    have hs0 : someE t (entE t e2) = 0 := someE_zero.2 ⟨he, by intro e; rw [e] at hE; cases hE⟩
    exact LWp.ret ⟨.inr rfl, _, .tup [tp t 0 g1 g2, I 0], m'.heap g1 g2 ++ Hc, rfl, .many (by decide) (show All2 (ResAV Tryz.prog _ _) [.tmp 4, .tmp 5] [tp t 0 g1 g2, I 0] from ⟨.tmp rfl rfl, .tmp rfl rfl, trivial⟩), .inl ⟨hs0, g1, g2, m', rfl, rfl⟩, List.Sublist.refl _⟩
end Go.Px

namespace Go.Px
open Go.Proofs Go.MapKept
theorem runL_go {α X : Type} {f : X → α → J × X} (h : ∀ x p, (f x p).1 = .go) : ∀ (L : List α) (x : X), runL f L x = (.go, L.foldl (fun x p => (f x p).2) x)
  | [], _ => rfl
  | p :: L, x => by
    have e : f x p = (.go, (f x p).2) := Prod.ext (h x p) rfl
    simp only [runL, List.foldl_cons]
    rw [e]
    exact runL_go h L _
theorem groups_len : ∀ {n : Nat}, n ≤ 6 → (groupsN n).length ≤ 1000 := by
  intro n h
  have : ∀ k : Fin 7, (groupsN k.1).length ≤ 1000 := by decide +kernel
  exact this ⟨n, by omega⟩
theorem fairL_len {t : Town} (h : t.OK) (but : Nat → Bool) : (fairL t but).length ≤ 1000 := by
  rw [fair_truths h]
  exact Nat.le_trans (List.length_filter_le _ _) (groups_len h.ms6)
theorem entE_fine (t : Town) : entE t 0 = townE t := by
  unfold entE
  by_cases h : townE t = 0
  · rw [if_neg (by simp [h]), h]
  · rw [if_pos h]
def firstT (t : Town) : List Int × Int × Int :=
  if someE t (townE t) = 0 then (natI ((truthsL t noBut).headD []), (truthsL t noBut).length, 0) else ([], 0, someE t (townE t))
abbrev firstS (x : List Int × Nat) (p : List Nat) : J × (List Int × Nat) := (.go, (if x.2 = 0 then natI p else x.1, x.2 + 1))
theorem firstS_run (L : List (List Nat)) : runL firstS L ([], 0) = (.go, (natI (L.headD []), L.length)) := by
  rw [runL_go (fun _ _ => rfl)]
  have key : ∀ (L : List (List Nat)) (l : List Int) (k : Nat), 0 < k → L.foldl (fun x p => (firstS x p).2) (l, k) = (l, k + L.length) := by
    intro L
    induction L with
    | nil => intro l k _; rfl
    | cons p L ih =>
      intro l k hk
      simp only [List.foldl_cons]
      rw [if_neg (by omega), ih _ _ (by omega)]
      simp only [List.length_cons]
      congr 1
      omega
  cases L with
  | nil => rfl
  | cons p L =>
    simp only [List.foldl_cons, if_true]
    rw [key _ _ _ (by omega)]
    simp only [List.headD_cons, List.length_cons]
    congr 2
    omega
theorem subA_nil0 : SubA (.v (.slice none 0 0)) (ints []) := by
  intro S v h
  simp only [Rep] at h ⊢
  exact .inl ⟨⟨none, h⟩, rfl⟩
theorem copy_list {n : Nat} (h : n ≤ 6) {p : List Nat} (hl : p.length = n) : (segE (chunk 1 6 (pcells p)) none none).take n = (natI p).map fun x => [I x] := by
  match p, hl with
  | [], e => subst e; rfl
  | [a], e => subst e; rfl
  | [a, b], e => subst e; rfl
  | [a, b, c], e => subst e; rfl
  | [a, b, c, d], e => subst e; rfl
  | [a, b, c, d, x], e => subst e; rfl
  | [a, b, c, d, x, y], e => subst e; rfl
  | a :: b :: c :: d :: x :: y :: z :: l, e => simp only [List.length_cons] at e; omega
theorem pfirst_ev (t : Town) (hw : t.wf) : Ev Tryz.prog 17 [.agg t.enc] (.tup [ints (firstT t).1, I (firstT t).2.1, I (firstT t).2.2]) := by
  refine Ev.intro fn17 ?_
  refine LWp.sx (gs := []) (hs := [.ice, .lin, .lin]) rfl ⟨⟨rfl, rfl⟩, rfl, rfl, trivial⟩ ?_
  refine LWp.shareB (t := 2) rfl fun b2 => ?_
  refine LWp.shareB (t := 3) rfl fun b3 => ?_
  refine LWp.seq (LWp.ops ?_)
  refine WOps.xn (gs := []) (hs := []) 1 rfl rfl trivial ?_
  refine WOps.cons (Op1.callR (Hin := []) (H0 := [(b3, .cells 3 [I 0]), (b2, .cells 34 [.v (.slice none 0 0)])]) (enterT_ev t hw 59 [] 0 [] (fun _ => (fine_ev.toR []))) rfl rfl (SubL.refl _) rfl ?_)
  rintro r1 Ho1 (⟨hE, g1, g2, m, rfl, rfl⟩ | ⟨hE, rfl, rfl⟩)
  case inr =>
    rw [entE_fine] at hE ⊢
    have hR : firstT t = ([], 0, someE t (townE t)) := by unfold firstT; rw [if_neg hE]
    rw [hR]
    refine WOps.xd (gs := []) (hs := []) rfl trivial ?_
    refine LWp.seq (LWp.seq ?_)
    refine LWp.x (gs := []) (hs := []) rfl trivial ?_
    refine LWp.ite (b := true) (by show B _ = B _; exact congrArg B (by rw [bne_iff_ne]; exact hE)) (fun _ => ?_) (fun h => by cases h)
    refine LWp.shx (gs := []) (hs := [.stO 1, .stO 0]) rfl ⟨⟨rfl, rfl, rfl, rfl, Nat.le_refl 1⟩, ⟨rfl, rfl, rfl, rfl, Nat.le_refl 1⟩, trivial⟩ ?_
    refine LWp.ent (Ent.cellsSub (j := 1) (bo := b2) (To := 34) [ints []] rfl ⟨SubA.nil 1, trivial⟩) ?_
    exact LWp.ret ⟨.inr rfl, _, rfl, .many (by decide) (show All2 (ResAV Tryz.prog _ _) [.cell 2 34, .cell 3 3, .tmp 4] [ints [], I 0, I (someE t (townE t))] from
      ⟨.cellO (n := none) (i := 1) (cs := [ints []]) rfl rfl (by kernel_rfl) rfl, .cellO (n := none) (i := 0) (cs := [I 0]) rfl rfl (by kernel_rfl) rfl, .tmp rfl rfl, trivial⟩)⟩
  rw [entE_fine] at hE
  have hOK := ((townE_zero hw).1 (someE_zero.1 hE).1).1
  have h6 := hOK.ms6
  have hR : firstT t = (natI ((truthsL t noBut).headD []), (((truthsL t noBut).length : Nat) : Int), 0) := by unfold firstT; rw [if_pos hE]
  have hft : fairL t (butF 0) = truthsL t noBut := by rw [butF_0, fair_truths hOK]
  have hlen := fairL_len hOK (butF 0)
  have hln : (t.ms.map Men.enc).length = t.ms.length := List.length_map _
  rw [hR]
  refine WOps.xd (gs := []) (hs := []) rfl trivial ?_
  refine LWp.seq (LWp.seq ?_)
  refine LWp.x (gs := []) (hs := []) rfl trivial ?_
  refine LWp.ite (b := false) rfl (fun h => by cases h) (fun _ => LWp.skip ?_)
  refine LWp.ent (Ent.trans (Ent.ofH (H' := m.heap g1 g2 ++ [(b3, .cells 3 [I 0]), (b2, .cells 34 [.v (.slice none 0 0)])]) (by simp)) (Ent.cellsSub (j := 3) (bo := b2) (To := 34) (cs := [.v (.slice none 0 0)]) [ints []] rfl ⟨subA_nil0, trivial⟩)) ?_
  refine LWp.seq (LWp.seq ?_)
  refine LWp.x (gs := []) (hs := [.ret (.fn (.func 105) [] [.pi [tp t 0 g1 g2]])]) rfl ⟨fair_ev t 0 g1 g2, trivial⟩ ?_
  refine LWp.block ?_
  refine LWp.fair hOK (but := 0) (by omega) (by omega) (X := List Int × Nat) firstS (fun x => [(b3, .cells 3 [I x.2]), (b2, .cells 34 [ints x.1])]) ([], 0) (H0 := []) m (el [(1, .pi t.enc), (2, .po b2 0), (3, .po b3 0)]) rfl (by simp) (el_any ⟨rfl, rfl, rfl, trivial⟩ rfl) (by decide) rfl ?_ ?_
  · intro l L1 p L2 m hL _ hg
    have hk : (runL firstS L1 ([], 0)).2.2 < 1000 := by
      rw [firstS_run]
      rw [hL, List.length_append, List.length_cons] at hlen
      show L1.length < 1000
      omega
    generalize (runL firstS L1 ([], 0)).2 = x at hk
    obtain ⟨ls, k⟩ := x
    simp only at hk
    refine LWp.x (gs := []) (hs := [.lin]) rfl ⟨rfl, ⟨rfl, rfl, rfl, Nat.le_refl 6⟩, trivial⟩ ?_
    refine ⟨rfl, LWp.ent (Ent.freezeLbox (t := 6) rfl) ?_⟩
    refine LWp.ent (Ent.el (l := [(1, .pi t.enc), (2, .po b2 0), (3, .po b3 0), (6, .pi (pcells p))]) ⟨rfl, rfl, rfl, rfl, trivial⟩) ?_
    refine LWp.block ?_
    refine LWp.shx (gs := []) (hs := [.at 2, .stO 2]) rfl ⟨rfl, ⟨by omega, by omega⟩, ⟨rfl, rfl, rfl, rfl, Nat.le_refl 1⟩, trivial⟩ ?_
    refine LWp.sx (gs := []) (hs := [.at 2]) rfl ⟨rfl, trivial⟩ ?_
    by_cases hk0 : k = 0
    · subst hk0
      refine LWp.ite (b := true) rfl (fun _ => ?_) (fun h => by cases h)
      refine LWp.seq (LWp.ops ?_)
      refine WOps.xn (gs := []) (hs := []) 3 rfl rfl trivial ?_
      refine WOps.cons (Op1.msliceC t.ms.length t.ms.length rfl rfl (by rw [hln]) (by rw [hln]) (Nat.le_refl _) (by omega) (by omega) rfl fun ba => ?_)
      refine WOps.hd (gs := []) (hs := [.stO 4]) rfl ⟨⟨rfl, rfl, rfl, rfl, Nat.le_refl 1⟩, trivial⟩ ?_
      refine LWp.d (gs := []) (hs := [.at 4]) hmix rfl (by kernel_rfl) ⟨rfl, ⟨⟨trivial, trivial⟩, ⟨Nat.le_refl 6, by decide⟩, by decide, by decide⟩, trivial⟩ ?_
      refine WOps.cons (Op1.copyA (i := 0) rfl rfl rfl ?_)
      have hes : (segE (chunk 1 6 (pcells p)) none none).take (min (segE (chunk 1 6 (pcells p)) none none).length (List.replicate t.ms.length ([Value.int .i64 0].map AV.v)).length) ++ (List.replicate t.ms.length ([Value.int .i64 0].map AV.v)).drop (min (segE (chunk 1 6 (pcells p)) none none).length (List.replicate t.ms.length ([Value.int .i64 0].map AV.v)).length) = (natI p).map fun x => [I x] := by
        have e6 : (segE (chunk 1 6 (pcells p)) none none).length = 6 := rfl
        rw [List.length_replicate, e6, Nat.min_eq_right h6, copy_list h6 hg.len, List.drop_eq_nil_of_le (by simp), List.append_nil]
      refine WOps.ent (Ent.trans (Ent.ofH (H' := (ba, .arr 3 1 t.ms.length ((natI p).map fun x => [I x])) :: (m.heap g1 g2 ++ [(b3, .cells 3 [I 1]), (b2, .cells 34 [.so ba (List.replicate t.ms.length ([Value.int .i64 0].map AV.v)).length t.ms.length])])) ?_)
        (Ent.freezeArrAt (i := 0) (j := 3) (b := ba) (T := 3) (kk := 1) (cap := t.ms.length) (bo := b2) (To := 34) (es := (natI p).map fun x => [I x]) (cs := [.so ba (List.replicate t.ms.length ([Value.int .i64 0].map AV.v)).length t.ms.length]) [ints (natI p)] rfl rfl ⟨.inr ⟨?_, rfl⟩, trivial⟩)) (WOps.nil ⟨rfl, m, List.Sublist.refl _⟩)
      · rw [← hes]; rfl
      · rw [List.length_map, natI_len, hg.len, List.length_replicate]
    · refine LWp.ite (b := false) (by show B _ = B _; refine congrArg B ?_; rw [beq_eq_false_iff_ne]; omega) (fun h => by cases h) (fun _ => LWp.skip ?_)
      refine ⟨rfl, m, ?_⟩
      simp only [if_neg hk0]
      exact List.Sublist.refl _
  · intro m' rD
    rw [hft, firstS_run]
    show LWp _ _ _ _ _ _ _ _
    refine LWp.seq (LWp.dSame (gs := []) (hs := [.at 4, .at 3]) [2, 30] 4 hmix rfl (by kernel_rfl) ⟨rfl, rfl, trivial⟩ rfl rfl rfl rfl rfl rfl (Nat.le_refl 1) rfl ?_)
    refine WOps.hd (gs := []) (hs := [.stO 3]) rfl ⟨⟨rfl, rfl, rfl, rfl, Nat.le_refl 1⟩, trivial⟩ ?_
    exact LWp.ret ⟨.inr rfl, _, ⟨0, rfl, rfl⟩, .many (by decide) (show All2 (ResAV Tryz.prog _ _) [.cell 2 34, .cell 3 3, .tmp 4] [ints (natI ((truthsL t noBut).headD [])), I ((truthsL t noBut).length : Nat), I 0] from
      ⟨.cellO (n := none) (i := 3) (cs := [ints (natI ((truthsL t noBut).headD []))]) rfl rfl (by kernel_rfl) rfl, .cellO (n := none) (i := 2) (cs := [I ((truthsL t noBut).length : Nat)]) rfl rfl (by kernel_rfl) rfl, .tmp rfl rfl, trivial⟩)⟩
end Go.Px

namespace Go.Px
open Go.Proofs Go.MapKept
def settleI (a b : Int) : Int := if a = b then 1 else if a = 0 then 2 else 0
theorem psettled_ev (a b : Int) : Ev Tryz.prog 64 [I a, I b] (I (settleI a b)) := by
  refine Ev.intro fn64 ?_
  refine LWp.sx (gs := []) (hs := []) rfl trivial ?_
  refine LWp.seq (LWp.seq ?_)
  refine LWp.x (gs := []) (hs := []) rfl trivial ?_
  refine LWp.block ?_
  refine LWp.sx (gs := []) (hs := []) rfl trivial ?_
  unfold settleI
  by_cases h1 : a = b
  · rw [if_pos h1]
    refine LWp.ite (b := true) (by show B _ = B _; exact congrArg B (by rw [beq_iff_eq]; exact h1)) (fun _ => ?_) (fun h => by cases h)
    refine LWp.sx (gs := []) (hs := []) rfl trivial ?_
    refine LWp.ret (retT (.inr rfl) (.one (.tmp ?_ rfl)))
    rfl
  · rw [if_neg h1]
    refine LWp.ite (b := false) (by show B _ = B _; exact congrArg B (by rw [beq_eq_false_iff_ne]; exact h1)) (fun h => by cases h) (fun _ => ?_)
    refine LWp.sx (gs := []) (hs := []) rfl trivial ?_
    by_cases h2 : a = 0
    · rw [if_pos h2]
      refine LWp.ite (b := true) (by show B _ = B _; exact congrArg B (by rw [beq_iff_eq]; exact h2)) (fun _ => ?_) (fun h => by cases h)
      refine LWp.sx (gs := []) (hs := []) rfl trivial ?_
      refine LWp.ret (retT (.inr rfl) (.one (.tmp ?_ rfl)))
      rfl
    · rw [if_neg h2]
      refine LWp.ite (b := false) (by show B _ = B _; exact congrArg B (by rw [beq_eq_false_iff_ne]; exact h2)) (fun h => by cases h) (fun _ => LWp.skip ?_)
      refine LWp.sx (gs := []) (hs := []) rfl trivial ?_
      refine LWp.ret (retT (.inr rfl) (.one (.tmp ?_ rfl)))
      rfl
def widerF (s x : Sp) (first : Bool) : Sp := if first = true then x else (min s.1 x.1, max s.2 x.2)
theorem wider_ev (s x : Sp) (first : Bool) : Ev Tryz.prog 69 [.agg (sp2 s), .agg (sp2 x), B first] (.agg (sp2 (widerF s x first))) := by
  refine Ev.intro fn69 ?_
  refine LWp.sx (gs := []) (hs := [.ice, .ice, .lin]) rfl ⟨⟨rfl, rfl⟩, ⟨rfl, rfl⟩, rfl, trivial⟩ ?_
  refine LWp.seq (LWp.seq ?_)
  refine LWp.x (gs := []) (hs := []) rfl trivial ?_
  cases first with
  | true =>
    refine LWp.ite (b := true) rfl (fun _ => ?_) (fun h => by cases h)
    refine LWp.sx (gs := []) (hs := []) rfl ⟨⟨rfl, rfl, rfl, Nat.le_refl 2⟩, trivial⟩ ?_
    refine LWp.ent (Ent.freezeLbox (t := 6) rfl) (LWp.ret ⟨.inr rfl, [], rfl, .one (.cellI (n := some 2) (cs := sp2 x) (upd_same _ _ _) (by kernel_rfl) rfl)⟩)
  | false =>
    refine LWp.ite (b := false) rfl (fun h => by cases h) (fun _ => LWp.skip ?_)
    refine LWp.sx (gs := []) (hs := []) rfl ⟨⟨rfl, rfl, rfl, Nat.le_refl 2⟩, trivial⟩ ?_
    refine LWp.ent (Ent.freezeLbox (t := 6) rfl) (LWp.ret ⟨.inr rfl, [], rfl, .one (.cellI (n := some 2) (cs := sp2 (widerF s x false)) (upd_same _ _ _) (by kernel_rfl) rfl)⟩)
theorem twoE_zero {t : Town} {a b : Int} : twoE t a b = 0 ↔ (0 ≤ a ∧ a < t.ms.length) ∧ (0 ≤ b ∧ b < t.ms.length) ∧ a ≠ b := by
  have b1 := beyond_iff (lo := 0) (hi := (t.ms.length : Int) - 1) (l := [a, b])
  simp only [List.mem_cons, List.not_mem_nil, or_false, forall_eq_or_imp, forall_eq] at b1
  unfold twoE
  cases c1 : beyondB 0 ((t.ms.length : Int) - 1) [a, b] with
  | true =>
    rw [c1] at b1
    simp only [if_true]
    constructor
    · intro h; omega
    · intro h; have := b1.2 (by omega); cases this
  | false =>
    have a1 := b1.1 c1
    simp only [Bool.false_eq_true, if_false]
    split
    · constructor
      · intro h; omega
      · intro h; omega
    · constructor
      · intro _; omega
      · intro _; rfl
theorem oneE_zero {t : Town} {a : Int} : oneE t a = 0 ↔ 0 ≤ a ∧ a < t.ms.length := by
  have b1 := beyond_iff (lo := 0) (hi := (t.ms.length : Int) - 1) (l := [a])
  simp only [List.mem_cons, List.not_mem_nil, or_false, forall_eq] at b1
  unfold oneE
  cases c1 : beyondB 0 ((t.ms.length : Int) - 1) [a] with
  | true =>
    rw [c1] at b1
    simp only [if_true]
    constructor
    · intro h; omega
    · intro h; have := b1.2 (by omega); cases this
  | false =>
    have a1 := b1.1 c1
    simp only [Bool.false_eq_true, if_false]
    exact ⟨fun _ => by omega, fun _ => trivial⟩
def oneP (a b : Int) (p : List Nat) : Bool := per p a.toNat == per p b.toNat
def sameT (t : Town) (a b : Int) : Int × Int :=
  if someE t (entE t (twoE t a b)) = 0 then (settleI ((truthsL t noBut).countP (oneP a b) : Nat) ((truthsL t noBut).length : Nat), 0) else (0, someE t (entE t (twoE t a b)))
abbrev sameS (a b : Int) (x : Nat × Nat) (p : List Nat) : J × (Nat × Nat) := (.go, (if oneP a b p = true then x.1 + 1 else x.1, x.2 + 1))
theorem sameS_run (a b : Int) (L : List (List Nat)) : runL (sameS a b) L (0, 0) = (.go, (L.countP (oneP a b), L.length)) := by
  rw [runL_go (fun _ _ => rfl)]
  have key : ∀ (L : List (List Nat)) (s k : Nat), L.foldl (fun x p => (sameS a b x p).2) (s, k) = (s + L.countP (oneP a b), k + L.length) := by
    intro L
    induction L with
    | nil => intro s k; rfl
    | cons p L ih =>
      intro s k
      simp only [List.foldl_cons]
      rw [ih, List.countP_cons]
      simp only [List.length_cons]
      refine Prod.ext ?_ ?_
      · simp only; split <;> omega
      · simp only; omega
  rw [key]; simp
theorem psame_ev (t : Town) (hw : t.wf) (a b : Int) : Ev Tryz.prog 20 [.agg t.enc, I a, I b] (.tup [I (sameT t a b).1, I (sameT t a b).2]) := by
  refine Ev.intro fn20 ?_
  refine LWp.sx (gs := []) (hs := [.ice, .ice, .ice]) rfl ⟨⟨rfl, rfl⟩, ⟨rfl, rfl⟩, ⟨rfl, rfl⟩, trivial⟩ ?_
  refine LWp.seq (LWp.dopsS hmix ?_)
  refine RAny.q (gs := []) (hs := [.ret (.fn (.func 109) [] [.pi t.enc, .pi [I a], .pi [I b]])]) 5 rfl (by kernel_rfl) ⟨two_ev t a b, trivial⟩ ?_
  refine RAny.o rfl (by kernel_rfl) (Op1.callR (Hin := []) (H0 := []) (enterT_ev t hw 109 [.pi t.enc, .pi [I a], .pi [I b]] (twoE t a b) [] (fun h => ((two1_ev t a b (by have := ((townE_zero hw).1 h).2; omega)).toR []))) rfl rfl (SubL.refl _) rfl ?_)
  rintro r1 Ho1 (⟨hE, g1, g2, m, rfl, rfl⟩ | ⟨hE, rfl, rfl⟩)
  case inr =>
    have hR : sameT t a b = (0, someE t (entE t (twoE t a b))) := by unfold sameT; rw [if_neg hE]
    rw [hR]
    refine RAny.q (gs := []) (hs := []) 5 rfl (by kernel_rfl) trivial (RAny.end (by kernel_rfl) ?_)
    refine LWp.seq (LWp.seq ?_)
    refine LWp.x (gs := []) (hs := []) rfl trivial ?_
    refine LWp.ite (b := true) (by show B _ = B _; exact congrArg B (by rw [bne_iff_ne]; exact hE)) (fun _ => ?_) (fun h => by cases h)
    refine LWp.sx (gs := []) (hs := []) rfl trivial ?_
    refine LWp.ret (retT (.inr rfl) (.many (by decide) ⟨.tmp ?_ rfl, .tmp ?_ rfl, trivial⟩))
    · rfl
    · rfl
  obtain ⟨hE1, _⟩ := someE_zero.1 hE
  obtain ⟨ht0, h20⟩ := entE_zero.1 hE1
  obtain ⟨⟨a0, a1⟩, ⟨b0, b1⟩, _⟩ := twoE_zero.1 h20
  have hOK := ((townE_zero hw).1 ht0).1
  have h6 := hOK.ms6
  have hR : sameT t a b = (settleI ((truthsL t noBut).countP (oneP a b) : Nat) ((truthsL t noBut).length : Nat), 0) := by unfold sameT; rw [if_pos hE]
  have hft : fairL t (butF 0) = truthsL t noBut := by rw [butF_0, fair_truths hOK]
  have hlen := fairL_len hOK (butF 0)
  rw [hR]
  refine RAny.q (gs := []) (hs := []) 5 rfl (by kernel_rfl) trivial (RAny.end (by kernel_rfl) ?_)
  refine LWp.seq (LWp.seq ?_)
  refine LWp.x (gs := []) (hs := []) rfl trivial ?_
  refine LWp.ite (b := false) rfl (fun h => by cases h) (fun _ => LWp.skip ?_)
  refine LWp.sx (gs := []) (hs := [.lin, .lin]) rfl ⟨rfl, rfl, ⟨rfl, rfl, rfl, Nat.le_refl 1⟩, ⟨rfl, rfl, rfl, Nat.le_refl 1⟩, trivial⟩ ?_
  refine LWp.shareB (t := 10) rfl fun bs => ?_
  refine LWp.shareB (t := 11) rfl fun ba => ?_
  refine LWp.ent (Ent.trans (Ent.ofH (H' := [(ba, .cells 3 [I 0]), (bs, .cells 3 [I 0])] ++ m.heap g1 g2) (by simp; exact ⟨rfl, rfl⟩)) (Ent.perm (H' := m.heap g1 g2 ++ [(ba, .cells 3 [I 0]), (bs, .cells 3 [I 0])]) List.perm_append_comm)) ?_
  refine LWp.seq (LWp.seq ?_)
  refine LWp.x (gs := []) (hs := [.ret (.fn (.func 105) [] [.pi [tp t 0 g1 g2]])]) rfl ⟨fair_ev t 0 g1 g2, trivial⟩ ?_
  refine LWp.block ?_
  refine LWp.fair hOK (but := 0) (by omega) (by omega) (X := Nat × Nat) (sameS a b) (fun x => [(ba, .cells 3 [I x.2]), (bs, .cells 3 [I x.1])]) (0, 0) (H0 := []) m (el [(4, .pi [I a]), (5, .pi [I b]), (10, .po bs 0), (11, .po ba 0)]) rfl (by simp) (el_any ⟨rfl, rfl, rfl, rfl, trivial⟩ rfl) (by decide) rfl ?_ ?_
  · intro l L1 p L2 m hL _ hg
    have hk : (runL (sameS a b) L1 (0, 0)).2.1 < 1000 ∧ (runL (sameS a b) L1 (0, 0)).2.2 < 1000 := by
      rw [sameS_run]
      rw [hL, List.length_append, List.length_cons] at hlen
      have := List.countP_le_length (p := oneP a b) (l := L1)
      simp only
      omega
    generalize (runL (sameS a b) L1 (0, 0)).2 = x at hk
    obtain ⟨s, k⟩ := x
    simp only at hk
    obtain ⟨hs, hk⟩ := hk
    refine LWp.x (gs := []) (hs := [.lin]) rfl ⟨rfl, ⟨rfl, rfl, rfl, Nat.le_refl 6⟩, trivial⟩ ?_
    refine ⟨rfl, LWp.ent (Ent.freezeLbox (t := 12) rfl) ?_⟩
    refine LWp.ent (Ent.el (l := [(4, .pi [I a]), (5, .pi [I b]), (10, .po bs 0), (11, .po ba 0), (12, .pi (pcells p))]) ⟨rfl, rfl, rfl, rfl, rfl, trivial⟩) ?_
    refine LWp.block ?_
    have l1 := setc_pre (per p) (k := a.toNat) (by omega)
    have l2 := setc_pre (per p) (k := b.toNat) (by omega)
    refine LWp.shx (gs := []) (hs := [.at 2, .stO 2]) rfl ⟨rfl, ⟨by omega, by omega⟩, ⟨rfl, rfl, rfl, rfl, Nat.le_refl 1⟩, trivial⟩ ?_
    refine LWp.sd (gs := []) (hs := [.pre [I (per p a.toNat : Nat)], .pre [I (per p b.toNat : Nat)]]) hmix rfl (by kernel_rfl) ⟨⟨⟨a0, by omega⟩, l1⟩, ⟨⟨b0, by omega⟩, l2⟩, trivial⟩ ?_
    refine LWp.ite (b := oneP a b p) ?_ (fun hb => ?_) (fun hb => LWp.skip ?_)
    · show B _ = B _
      refine congrArg B ?_
      unfold oneP
      rw [Bool.eq_iff_iff, beq_iff_eq, beq_iff_eq]
      omega
    · refine LWp.hx (gs := []) (hs := [.at 3, .stO 3]) rfl ⟨rfl, ⟨by omega, by omega⟩, ⟨rfl, rfl, rfl, rfl, Nat.le_refl 1⟩, trivial⟩ ?_
      refine ⟨rfl, m, ?_⟩
      simp only [hb, if_true]
      exact List.Sublist.refl _
    · refine ⟨rfl, m, ?_⟩
      simp only [hb, if_false, Bool.false_eq_true]
      exact List.Sublist.refl _
  · intro m' rD
    rw [hft, sameS_run]
    show LWp _ _ _ _ _ _ _ _
    refine LWp.sx (gs := []) (hs := [.at 4, .at 3, .ret (I (settleI ((truthsL t noBut).countP (oneP a b) : Nat) ((truthsL t noBut).length : Nat)))]) rfl ⟨rfl, rfl, psettled_ev _ _, trivial⟩ ?_
    exact LWp.ret ⟨.inr rfl, _, ⟨0, rfl, rfl⟩, .many (by decide) ⟨.tmp rfl rfl, .tmp rfl rfl, trivial⟩⟩
end Go.Px

namespace Go.Px
open Go.Proofs Go.MapKept
def hullF (g : List Nat → Sp) (l : List (List Nat)) : Sp := (l.foldl (fun (x : Sp × Bool) p => (widerF x.1 (g p) x.2, false)) ((0, 0), true)).1
abbrev hullS (g : List Nat → Sp) (x : Sp × Bool) (p : List Nat) : J × (Sp × Bool) := (.go, (widerF x.1 (g p) x.2, false))
theorem hullS_run (g : List Nat → Sp) (L : List (List Nat)) : (runL (hullS g) L ((0, 0), true)).1 = .go ∧ (runL (hullS g) L ((0, 0), true)).2.1 = hullF g L := by
  rw [runL_go (fun _ _ => rfl)]
  exact ⟨rfl, rfl⟩
def personsT (t : Town) : Sp × Int := if someE t (townE t) = 0 then (hullF (fun p => (((cnt p : Nat) : Int), ((cnt p : Nat) : Int))) (truthsL t noBut), 0) else ((0, 0), someE t (townE t))
theorem ppersons_ev (t : Town) (hw : t.wf) : Ev Tryz.prog 23 [.agg t.enc] (.tup [.agg (sp2 (personsT t).1), I (personsT t).2]) := by
  refine Ev.intro fn23 ?_
  refine LWp.sx (gs := []) (hs := [.ice, .lin]) rfl ⟨⟨rfl, rfl⟩, rfl, trivial⟩ ?_
  refine LWp.seq (LWp.ops ?_)
  refine WOps.xn (gs := []) (hs := []) 1 rfl rfl trivial ?_
  refine WOps.cons (Op1.callR (Hin := []) (H0 := []) (enterT_ev t hw 59 [] 0 [] (fun _ => (fine_ev.toR []))) rfl rfl (SubL.refl _) rfl ?_)
  rintro r1 Ho1 (⟨hE, g1, g2, m, rfl, rfl⟩ | ⟨hE, rfl, rfl⟩)
  case inr =>
    rw [entE_fine] at hE ⊢
    have hR : personsT t = ((0, 0), someE t (townE t)) := by unfold personsT; rw [if_neg hE]
    rw [hR]
    refine WOps.xd (gs := []) (hs := []) rfl trivial ?_
    refine LWp.seq (LWp.seq ?_)
    refine LWp.x (gs := []) (hs := []) rfl trivial ?_
    refine LWp.ite (b := true) (by show B _ = B _; exact congrArg B (by rw [bne_iff_ne]; exact hE)) (fun _ => ?_) (fun h => by cases h)
    refine LWp.sx (gs := []) (hs := []) rfl ⟨⟨rfl, rfl, rfl, Nat.le_refl 2⟩, trivial⟩ ?_
    refine LWp.ent (Ent.freezeLbox (t := 2) rfl) (LWp.ret ⟨.inr rfl, [], rfl, .many (by decide) (show All2 (ResAV Tryz.prog _ _) [.cell 2 43, .tmp 3] [.agg (sp2 (0, 0)), I (someE t (townE t))] from ⟨.cellI (n := some 2) (cs := sp2 (0, 0)) (upd_same _ _ _) (by kernel_rfl) rfl, .tmp rfl rfl, trivial⟩)⟩)
  rw [entE_fine] at hE
  have hOK := ((townE_zero hw).1 (someE_zero.1 hE).1).1
  have hR : personsT t = (hullF (fun p => (((cnt p : Nat) : Int), ((cnt p : Nat) : Int))) (truthsL t noBut), 0) := by unfold personsT; rw [if_pos hE]
  have hft : fairL t (butF 0) = truthsL t noBut := by rw [butF_0, fair_truths hOK]
  rw [hR]
  refine WOps.xd (gs := []) (hs := []) rfl trivial ?_
  refine LWp.seq (LWp.seq ?_)
  refine LWp.x (gs := []) (hs := []) rfl trivial ?_
  refine LWp.ite (b := false) rfl (fun h => by cases h) (fun _ => LWp.skip ?_)
  refine LWp.sx (gs := []) (hs := [.lin]) rfl ⟨rfl, ⟨rfl, rfl, rfl, Nat.le_refl 1⟩, trivial⟩ ?_
  refine LWp.shareB (t := 2) rfl fun b2 => ?_
  refine LWp.shareB (t := 5) rfl fun b5 => ?_
  refine LWp.ent (Ent.trans (Ent.ofH (H' := [(b5, .cells 4 [B true]), (b2, .cells 43 (sp2 (0, 0)))] ++ m.heap g1 g2) rfl) (Ent.perm (H' := m.heap g1 g2 ++ [(b5, .cells 4 [B true]), (b2, .cells 43 (sp2 (0, 0)))]) List.perm_append_comm)) ?_
  refine LWp.seq (LWp.seq ?_)
  refine LWp.x (gs := []) (hs := [.ret (.fn (.func 105) [] [.pi [tp t 0 g1 g2]])]) rfl ⟨fair_ev t 0 g1 g2, trivial⟩ ?_
  refine LWp.block ?_
  refine LWp.fair hOK (but := 0) (by omega) (by omega) (X := Sp × Bool) (hullS fun p => (((cnt p : Nat) : Int), ((cnt p : Nat) : Int))) (fun x => [(b5, .cells 4 [B x.2]), (b2, .cells 43 (sp2 x.1))]) ((0, 0), true) (H0 := []) m (el [(2, .po b2 0), (5, .po b5 0)]) rfl (by simp) (el_any ⟨rfl, rfl, trivial⟩ rfl) (by decide) rfl ?_ ?_
  · intro l L1 p L2 m hL _ hg
    generalize (runL (hullS fun p => (((cnt p : Nat) : Int), ((cnt p : Nat) : Int))) L1 ((0, 0), true)).2 = x
    obtain ⟨s, fst⟩ := x
    refine LWp.x (gs := []) (hs := []) rfl trivial ?_
    refine ⟨rfl, ?_⟩
    refine LWp.ent (Ent.el (l := [(2, .po b2 0), (5, .po b5 0), (7, I (cnt p : Nat))]) ⟨rfl, rfl, rfl, trivial⟩) ?_
    refine LWp.block ?_
    have hwd := wider_ev s (((cnt p : Nat) : Int), ((cnt p : Nat) : Int)) fst
    refine LWp.shx (gs := []) (hs := [.at 3, .at 2, .ret (.agg (sp2 (widerF s (((cnt p : Nat) : Int), ((cnt p : Nat) : Int)) fst))), .stO 3]) rfl ⟨rfl, rfl, hwd, ⟨rfl, rfl, rfl, rfl, Nat.le_refl 2⟩, trivial⟩ ?_
    refine LWp.hx (gs := []) (hs := [.stO 2]) rfl ⟨⟨rfl, rfl, rfl, rfl, Nat.le_refl 1⟩, trivial⟩ ?_
    exact ⟨rfl, m, List.Sublist.refl _⟩
  · intro m' rD
    obtain ⟨e1, e2⟩ := hullS_run (fun p => (((cnt p : Nat) : Int), ((cnt p : Nat) : Int))) (truthsL t noBut)
    rw [hft, e1]
    simp only [e2]
    show LWp _ _ _ _ _ _ _ _
    refine LWp.shx (gs := []) (hs := [.at 4, .stO 4]) rfl ⟨rfl, ⟨rfl, rfl, rfl, rfl, Nat.le_refl 2⟩, trivial⟩ ?_
    generalize hullF (fun p => (((cnt p : Nat) : Int), ((cnt p : Nat) : Int))) (truthsL t noBut) = hv
    exact LWp.ret ⟨.inr rfl, _, ⟨0, rfl, rfl⟩, .many (by decide) (show All2 (ResAV Tryz.prog _ _) [.cell 2 43, .tmp 3] [.agg (sp2 hv), I 0] from ⟨.cellO (n := some 2) (i := 3) (cs := sp2 hv) rfl rfl (by kernel_rfl) rfl, .tmp rfl rfl, trivial⟩)⟩
def bornT (t : Town) (q : Int) : Sp × Int := if someE t (entE t (oneE t q)) = 0 then (hullF (fun p => spAt (yearsW t p 6) (per p q.toNat)) (truthsL t noBut), 0) else ((0, 0), someE t (entE t (oneE t q)))
theorem search_last {t : Town} {p : List Nat} (h : p ∈ searchL t) : pairsB (apartF t) p = true ∧ emptyS (yearsW t p 6) = false := by
  rw [search_filter] at h
  have := (List.mem_filter.1 h).2
  rw [Bool.and_eq_true] at this
  refine ⟨this.1, ?_⟩
  have h2 := this.2
  unfold lastB at h2
  rw [Bool.and_eq_true] at h2
  simpa using h2.1
theorem pborn_ev (t : Town) (hw : t.wf) (q : Int) : Ev Tryz.prog 25 [.agg t.enc, I q] (.tup [.agg (sp2 (bornT t q).1), I (bornT t q).2]) := by
  refine Ev.intro fn25 ?_
  refine LWp.sx (gs := []) (hs := [.ice, .ice, .lin]) rfl ⟨⟨rfl, rfl⟩, ⟨rfl, rfl⟩, rfl, trivial⟩ ?_
  refine LWp.seq (LWp.ops ?_)
  refine WOps.xn (gs := []) (hs := []) 2 rfl rfl trivial ?_
  refine WOps.cons (Op1.callR (Hin := []) (H0 := []) (enterT_ev t hw 71 [.pi t.enc, .pi [I q]] (oneE t q) [] (fun h => (born1_ev t q (by have := ((townE_zero hw).1 h).2; omega)).toR [])) rfl rfl (SubL.refl _) rfl ?_)
  rintro r1 Ho1 (⟨hE, g1, g2, m, rfl, rfl⟩ | ⟨hE, rfl, rfl⟩)
  case inr =>
    have hR : bornT t q = ((0, 0), someE t (entE t (oneE t q))) := by unfold bornT; rw [if_neg hE]
    rw [hR]
    refine WOps.xd (gs := []) (hs := [.lin]) rfl ⟨rfl, ⟨rfl, rfl, rfl, Nat.le_refl 1⟩, trivial⟩ ?_
    refine LWp.seq (LWp.seq ?_)
    refine LWp.x (gs := []) (hs := []) rfl trivial ?_
    refine LWp.ite (b := true) (by show B _ = B _; exact congrArg B (by rw [bne_iff_ne]; exact hE)) (fun _ => ?_) (fun h => by cases h)
    refine LWp.sx (gs := []) (hs := []) rfl ⟨⟨rfl, rfl, rfl, Nat.le_refl 2⟩, trivial⟩ ?_
    refine LWp.ent (Ent.freezeLbox (t := 4) rfl) (LWp.ret ⟨.inr rfl, [], rfl, .many (by decide) (show All2 (ResAV Tryz.prog _ _) [.cell 4 43, .tmp 5] [.agg (sp2 (0, 0)), I (someE t (entE t (oneE t q)))] from ⟨.cellI (n := some 2) (cs := sp2 (0, 0)) (upd_same _ _ _) (by kernel_rfl) rfl, .tmp rfl rfl, trivial⟩)⟩)
  obtain ⟨hE1, _⟩ := someE_zero.1 hE
  obtain ⟨ht0, h20⟩ := entE_zero.1 hE1
  obtain ⟨q0, q1⟩ := oneE_zero.1 h20
  have hOK := ((townE_zero hw).1 ht0).1
  have h6 := hOK.ms6
  have hR : bornT t q = (hullF (fun p => spAt (yearsW t p 6) (per p q.toNat)) (truthsL t noBut), 0) := by unfold bornT; rw [if_pos hE]
  have hft : fairL t (butF 0) = truthsL t noBut := by rw [butF_0, fair_truths hOK]
  rw [hR]
  refine WOps.xd (gs := []) (hs := [.lin]) rfl ⟨rfl, ⟨rfl, rfl, rfl, Nat.le_refl 1⟩, trivial⟩ ?_
  refine LWp.seq (LWp.seq ?_)
  refine LWp.x (gs := []) (hs := []) rfl trivial ?_
  refine LWp.ite (b := false) rfl (fun h => by cases h) (fun _ => LWp.skip ?_)
  refine LWp.sx (gs := []) (hs := [.lin]) rfl ⟨rfl, ⟨rfl, rfl, rfl, Nat.le_refl 1⟩, trivial⟩ ?_
  refine LWp.ent (Ent.freezeLbox (t := 6) rfl) ?_
  refine LWp.shareB (t := 4) rfl fun b2 => ?_
  refine LWp.shareB (t := 7) rfl fun b5 => ?_
  refine LWp.ent (Ent.trans (Ent.ofH (H' := [(b5, .cells 4 [B true]), (b2, .cells 43 (sp2 (0, 0)))] ++ m.heap g1 g2) rfl) (Ent.trans (Ent.perm (H' := m.heap g1 g2 ++ [(b5, .cells 4 [B true]), (b2, .cells 43 (sp2 (0, 0)))]) List.perm_append_comm)
    (Ent.el (l := [(3, .pi [I q]), (4, .po b2 0), (6, .pi [tp t 0 g1 g2]), (7, .po b5 0)]) ⟨rfl, rfl, rfl, rfl, trivial⟩))) ?_
  refine LWp.seq (LWp.seq ?_)
  refine LWp.x (gs := []) (hs := [.ret (.fn (.func 105) [] [.pi [tp t 0 g1 g2]])]) rfl ⟨fair_ev t 0 g1 g2, trivial⟩ ?_
  refine LWp.block ?_
  refine LWp.fair hOK (but := 0) (by omega) (by omega) (X := Sp × Bool) (hullS fun p => spAt (yearsW t p 6) (per p q.toNat)) (fun x => [(b5, .cells 4 [B x.2]), (b2, .cells 43 (sp2 x.1))]) ((0, 0), true) (H0 := []) m (el [(3, .pi [I q]), (4, .po b2 0), (6, .pi [tp t 0 g1 g2]), (7, .po b5 0)]) rfl (by simp) (el_any ⟨rfl, rfl, rfl, rfl, trivial⟩ rfl) (by decide) rfl ?_ ?_
  · intro l L1 p L2 m hL _ hg
    generalize (runL (hullS fun p => spAt (yearsW t p 6) (per p q.toNat)) L1 ((0, 0), true)).2 = x
    obtain ⟨s, fst⟩ := x
    have hmem : p ∈ searchL t := (List.mem_filter.1 (show p ∈ fairL t (butF 0) by rw [hL]; simp)).1
    obtain ⟨hpairs, hne⟩ := search_last hmem
    obtain ⟨hpo, hp6⟩ := perOK_of h6 hg
    have hpq := hp6 q.toNat
    refine LWp.x (gs := []) (hs := [.lin]) rfl ⟨rfl, ⟨rfl, rfl, rfl, Nat.le_refl 6⟩, trivial⟩ ?_
    refine ⟨rfl, LWp.ent (Ent.freezeLbox (t := 8) rfl) ?_⟩
    refine LWp.ent (Ent.el (l := [(3, .pi [I q]), (4, .po b2 0), (6, .pi [tp t 0 g1 g2]), (7, .po b5 0), (8, .pi (pcells p))]) ⟨rfl, rfl, rfl, rfl, rfl, trivial⟩) ?_
    refine LWp.block (LWp.seq (LWp.ops ?_))
    refine WOps.xn (gs := []) (hs := []) 2 rfl rfl trivial ?_
    refine WOps.cons (Op1.callR (Hin := m.heap g1 g2) (H0 := [(b5, .cells 4 [B fst]), (b2, .cells 43 (sp2 s))]) (years_ev hOK 0 g1 g2 hg (kin1_of hOK hg.len hpairs) m) rfl rfl (SubL.refl _) rfl ?_)
    rintro r2 Ho2 ⟨⟨b, rfl, hb⟩, m2, rfl⟩
    rw [hb hne]
    refine WOps.xd (gs := []) (hs := [.lin]) rfl ⟨rfl, ⟨rfl, rfl, rfl, Nat.le_refl 12⟩, trivial⟩ ?_
    refine LWp.ent (Ent.freezeLbox (t := 9) rfl) ?_
    refine LWp.ent (Ent.el (l := [(3, .pi [I q]), (4, .po b2 0), (6, .pi [tp t 0 g1 g2]), (7, .po b5 0), (8, .pi (pcells p)), (9, .pi (scells (yearsW t p 6)))]) ⟨rfl, rfl, rfl, rfl, rfl, rfl, trivial⟩) ?_
    have l1 := setc_pre (per p) (k := q.toNat) (by omega)
    have l2 : sp2 (spAt (yearsW t p 6) (per p q.toNat)) <+: (scf (spAt (yearsW t p 6))).drop (((per p q.toNat : Nat) : Int).toNat * 2) := by
      have : ∀ (f : Nat → Sp) (k : Nat), k < 6 → sp2 (f k) <+: (scf f).drop (k * 2) := by
        intro f k hk
        match k, hk with
        | 0, _ => exact ⟨_, rfl⟩
        | 1, _ => exact ⟨_, rfl⟩
        | 2, _ => exact ⟨_, rfl⟩
        | 3, _ => exact ⟨_, rfl⟩
        | 4, _ => exact ⟨_, rfl⟩
        | 5, _ => exact ⟨_, rfl⟩
      exact this (spAt (yearsW t p 6)) (per p q.toNat) hpq
    have hwd := wider_ev s (spAt (yearsW t p 6) (per p q.toNat)) fst
    refine LWp.seq (LWp.d (gs := []) (hs := [.at 3, .pre [I (per p q.toNat : Nat)], .pre (sp2 (spAt (yearsW t p 6) (per p q.toNat))), .at 2, .ret (.agg (sp2 (widerF s (spAt (yearsW t p 6) (per p q.toNat)) fst)))]) hmix rfl (by kernel_rfl)
      ⟨rfl, ⟨⟨q0, by omega⟩, l1⟩, ⟨⟨by omega, by omega⟩, l2⟩, rfl, hwd, trivial⟩ ?_)
    refine WOps.hd (gs := []) (hs := [.stO 3]) rfl ⟨⟨rfl, rfl, rfl, rfl, Nat.le_refl 2⟩, trivial⟩ ?_
    refine LWp.hx (gs := []) (hs := [.stO 2]) rfl ⟨⟨rfl, rfl, rfl, rfl, Nat.le_refl 1⟩, trivial⟩ ?_
    exact ⟨rfl, m2, List.Sublist.refl _⟩
  · intro m' rD
    obtain ⟨e1, e2⟩ := hullS_run (fun p => spAt (yearsW t p 6) (per p q.toNat)) (truthsL t noBut)
    rw [hft, e1]
    simp only [e2]
    show LWp _ _ _ _ _ _ _ _
    generalize hullF (fun p => spAt (yearsW t p 6) (per p q.toNat)) (truthsL t noBut) = hv
    refine LWp.shx (gs := []) (hs := [.at 4, .stO 4]) rfl ⟨rfl, ⟨rfl, rfl, rfl, rfl, Nat.le_refl 2⟩, trivial⟩ ?_
    exact LWp.ret ⟨.inr rfl, _, ⟨0, rfl, rfl⟩, .many (by decide) (show All2 (ResAV Tryz.prog _ _) [.cell 4 43, .tmp 5] [.agg (sp2 hv), I 0] from ⟨.cellO (n := some 2) (i := 3) (cs := sp2 hv) rfl rfl (by kernel_rfl) rfl, .tmp rfl rfl, trivial⟩)⟩
end Go.Px

namespace Go.Px
open Go.Proofs Go.MapKept
def whyT (t : Town) (a b : Int) : Int × Int := if entE t (twoE t a b) = 0 then (whyF t a.toNat b.toNat, 0) else (0, entE t (twoE t a b))
theorem pwhy_ev (t : Town) (hw : t.wf) (a b : Int) : Ev Tryz.prog 27 [.agg t.enc, I a, I b] (.tup [I (whyT t a b).1, I (whyT t a b).2]) := by
  have hchk := pcheck_ev t hw
  have htw := two_ev t a b
  refine Ev.intro fn27 ?_
  refine LWp.sx (gs := []) (hs := [.ice]) rfl ⟨⟨rfl, rfl⟩, trivial⟩ ?_
  refine LWp.sx (gs := []) (hs := [.ret (.tup [I (checkT t).1, I (checkT t).2.1, I (checkT t).2.2])]) rfl ⟨hchk, trivial⟩ ?_
  refine LWp.cutX (fun _ : Unit => True) (fun _ => el [(1, I a), (2, I b), (3, .pi t.enc), (10, I (entE t (twoE t a b)))]) (fun _ => []) (fun _ => []) ?_ ?_
  · refine LWp.sx (gs := []) (hs := []) rfl trivial ?_
    by_cases h : townE t = 0
    · have h1 := two1_ev t a b (by have := ((townE_zero hw).1 h).2; omega)
      have he : entE t (twoE t a b) = twoE t a b := by unfold entE; rw [if_neg (by simp [h])]
      refine LWp.ite (b := true) (by show B _ = B _; exact congrArg B (by rw [beq_iff_eq]; exact h)) (fun _ => ?_) (fun h => by cases h)
      refine LWp.x (gs := []) (hs := [.ret (.fn (.func 109) [] [.pi t.enc, .pi [I a], .pi [I b]]), .ret (I (twoE t a b))]) rfl ⟨htw, h1, trivial⟩ ?_
      exact ⟨(), trivial, Ent.el ⟨rfl, rfl, rfl, by rw [he]; rfl, trivial⟩⟩
    · have he : entE t (twoE t a b) = townE t := by unfold entE; rw [if_pos h]
      refine LWp.ite (b := false) (by show B _ = B _; exact congrArg B (by rw [beq_eq_false_iff_ne]; exact h)) (fun h => by cases h) (fun _ => LWp.skip ?_)
      exact ⟨(), trivial, Ent.el ⟨rfl, rfl, rfl, by rw [he]; rfl, trivial⟩⟩
  intro _ _
  refine LWp.seq (LWp.seq ?_)
  refine LWp.x (gs := []) (hs := []) rfl trivial ?_
  by_cases hE : entE t (twoE t a b) = 0
  case neg =>
    have hR : whyT t a b = (0, entE t (twoE t a b)) := by unfold whyT; rw [if_neg hE]
    rw [hR]
    refine LWp.ite (b := true) (by show B _ = B _; exact congrArg B (by rw [bne_iff_ne]; exact hE)) (fun _ => ?_) (fun h => by cases h)
    refine LWp.sx (gs := []) (hs := []) rfl trivial ?_
    refine LWp.ret (retT (.inr rfl) (.many (by decide) ⟨.tmp ?_ rfl, .tmp ?_ rfl, trivial⟩))
    · rfl
    · rfl
  have hR : whyT t a b = (whyF t a.toNat b.toNat, 0) := by unfold whyT; rw [if_pos hE]
  obtain ⟨ht0, h20⟩ := entE_zero.1 hE
  obtain ⟨⟨a0, a1⟩, ⟨b0, b1⟩, _⟩ := twoE_zero.1 h20
  have hOK := ((townE_zero hw).1 ht0).1
  obtain ⟨u, rfl⟩ : ∃ u : Nat, a = u := ⟨a.toNat, by omega⟩
  obtain ⟨v, rfl⟩ : ∃ v : Nat, b = v := ⟨b.toNat, by omega⟩
  rw [hR]
  simp only [Int.toNat_natCast]
  refine LWp.ite (b := false) (by show B _ = B _; exact congrArg B (by rw [bne_eq_false_iff_eq]; exact hE)) (fun h => by cases h) (fun _ => LWp.skip ?_)
  refine LWp.seq (LWp.ops ?_)
  refine WOps.xn (gs := []) (hs := []) 1 rfl rfl trivial ?_
  refine WOps.cons (Op1.callR (Hin := []) (H0 := []) (plook_ev t 0) rfl rfl (SubL.refl _) rfl ?_)
  rintro r2 Ho2 ⟨g1, g2, rfl, rfl⟩
  refine WOps.xn (gs := []) (hs := []) 2 rfl rfl trivial ?_
  refine WOps.cons (Op1.callR (Hin := (MS.new t).heap g1 g2) (H0 := []) (why_ev hOK 0 g1 g2 (a := u) (b := v) (by omega) (by omega) (MS.new t)) rfl rfl (SubL.refl _) rfl ?_)
  rintro r3 Ho3 ⟨rfl, m', rfl⟩
  refine WOps.xd (gs := []) (hs := []) rfl trivial ?_
  exact LWp.ret ⟨.inr rfl, _, rfl, .many (by decide) ⟨.tmp rfl rfl, .tmp rfl rfl, trivial⟩⟩
theorem clone_ev (l : List Men) (hl : l.length ≤ 1000) : Ev Tryz.prog 78 [mensV l] (.lin 49 5 (l.map Men.enc)) := by
  refine Ev.intro fn78 ?_
  refine LWp.sx (gs := []) (hs := []) rfl trivial ?_
  refine LWp.seq (LWp.seq (LWp.ops ?_))
  refine WOps.xn (gs := []) (hs := []) 1 rfl rfl trivial ?_
  refine WOps.cons (Op1.eqNil Tryz.underlying26 (by kernel_rfl) rfl rfl fun b hb => ?_)
  refine WOps.nil ?_
  cases b with
  | true =>
    have he := hb rfl
    refine LWp.ite (b := true) rfl (fun _ => ?_) (fun h => by cases h)
    refine LWp.sx (gs := []) (hs := []) rfl trivial ?_
    refine LWp.ent (Ent.nilLin (t := 2) 49 5 rfl) (LWp.ret (retT (.inr rfl) (.lin ?_ rfl)))
    rw [he]
    rfl
  | false =>
    refine LWp.ite (b := false) rfl (fun h => by cases h) (fun _ => LWp.skip ?_)
    refine LWp.sx (gs := []) (hs := [.lin]) rfl ⟨rfl, ⟨by simp only [List.length_map, chunk, List.length_nil]; omega, by simp only [List.length_map, chunk, List.length_nil]; omega⟩, trivial⟩ ?_
    refine LWp.ret (retT (.inr rfl) (.lin ?_ rfl))
    rfl
end Go.Px

namespace Go.Px
open Go.Proofs Go.MapKept
def wrongS (t : Town) (x : List Int × Bool) (set : Nat) : List Int × Bool :=
  if x.2 = true ∧ (x.1.length < (numsF (set : Nat) t.ties.length).length ∨ ((numsF (set : Nat) t.ties.length).length = x.1.length ∧ cmpL (numsF (set : Nat) t.ties.length) x.1 > 0)) then x
  else if (truthsL t (butF (set : Nat))).isEmpty = true then x else (numsF (set : Nat) t.ties.length, true)
def wrongF (t : Town) (k : Nat) : List Int × Bool := (List.range k).foldl (wrongS t) ([], false)
theorem wrongF_succ (t : Town) (k : Nat) : wrongF t (k + 1) = wrongS t (wrongF t k) k := by
  unfold wrongF
  rw [List.range_succ, List.foldl_append]; rfl
def wrongT (t : Town) : List Int × Int := if townE t = 0 then (if (wrongF t (2 ^ t.ties.length)).2 = true then ((wrongF t (2 ^ t.ties.length)).1, 0) else ([], 9)) else ([], townE t)
theorem pwrong_ev (t : Town) (hw : t.wf) : Ev Tryz.prog 31 [.agg t.enc] (.tup [ints (wrongT t).1, I (wrongT t).2]) := by
  have hchk := pcheck_ev t hw
  have err : ∀ (env : Env) (e : Int), wrongT t = ([], e) → env 2 = .nil → env 3 = I e → LWp Tryz.prog none 58 .ret (fun e env H D => e = .ret ∧ retP Tryz.prog [.tmp 2, .tmp 3] (.tup [ints (wrongT t).1, I (wrongT t).2]) .ret env H D) env [] [] := by
    intro env e h h2 h3
    rw [h]
    refine LWp.ent (Ent.nilSl (t := 2) 1 h2) ?_
    refine LWp.ret ⟨rfl, retT (.inr rfl) (.many (by decide) ⟨.tmp rfl rfl, .tmp ?_ rfl, trivial⟩)⟩
    rw [upd_other _ _ (by decide), h3]
  refine Ev.intro fn31 ?_
  refine LWp.sx (gs := []) (hs := [.ice]) rfl ⟨⟨rfl, rfl⟩, trivial⟩ ?_
  refine LWp.seq (LWp.seq ?_)
  refine LWp.x (gs := []) (hs := [.ret (.tup [I (checkT t).1, I (checkT t).2.1, I (checkT t).2.2])]) rfl ⟨hchk, trivial⟩ ?_
  refine LWp.seq ?_
  refine LWp.x (gs := []) (hs := []) rfl trivial ?_
  by_cases h1 : townE t = 0
  case neg =>
    refine LWp.ite (b := true) (by show B _ = B _; exact congrArg B (by rw [bne_iff_ne]; exact h1)) (fun _ => ?_) (fun h => by cases h)
    refine LWp.sx (gs := []) (hs := []) rfl trivial ?_
    refine LWp.mono (err _ (townE t) (by unfold wrongT; rw [if_neg h1]) rfl rfl) (by rintro e env H D ⟨rfl, h⟩; exact h)
  refine LWp.ite (b := false) (by show B _ = B _; exact congrArg B (by rw [bne_eq_false_iff_eq]; exact h1)) (fun h => by cases h) (fun _ => LWp.skip ?_)
  have hOK := ((townE_zero hw).1 h1).1
  have h4 := hOK.ties4
  have hln : ((t.ties.map Tie.enc).length : Int) = t.ties.length := by simp
  have hp2 : (2 : Nat) ^ t.ties.length ≤ 16 := by
    have := Nat.pow_le_pow_right (n := 2) (by omega) h4
    omega
  have hp1 : 0 < (2 : Nat) ^ t.ties.length := Nat.pow_pos (by omega)
  have hpe : (1 : Int) * 2 ^ (((t.ties.map Tie.enc).length : Nat) : Int).toNat = ((2 ^ t.ties.length : Nat) : Int) := by
    rw [hln]; simp
  have hR : wrongT t = if (wrongF t (2 ^ t.ties.length)).2 = true then ((wrongF t (2 ^ t.ties.length)).1, 0) else ([], 9) := by unfold wrongT; rw [if_pos h1]
  refine LWp.ent (Ent.nilSl (t := 2) 1 rfl) ?_
  refine LWp.sx (gs := []) (hs := []) rfl trivial ?_
  refine LWp.seq (LWp.seq ?_)
  refine LWp.x (gs := []) (hs := []) rfl ⟨⟨by omega, by omega, by omega, by omega⟩, trivial⟩ ?_
  refine LWp.blockT (fun _ : Unit => True) (fun _ => el [(2, ints (wrongF t (2 ^ t.ties.length)).1), (4, B (wrongF t (2 ^ t.ties.length)).2)]) (fun _ => []) (fun _ => []) ?_ ?_
  · refine LWp.loopN (fun k : Nat => k ≤ 2 ^ t.ties.length) (fun k => el [(1, .pi t.enc), (2, ints (wrongF t k).1), (4, B (wrongF t k).2), (19, I (2 ^ t.ties.length : Nat)), (20, I k)]) (fun _ => []) (fun _ => []) (fun k => 2 ^ t.ties.length - k) 0 (by omega)
      (Ent.el ⟨rfl, rfl, rfl, by show I _ = I _; rw [hpe], rfl, trivial⟩) ?_
    intro k hk
    have hsucc := wrongF_succ t k
    generalize hx : wrongF t k = x at hsucc
    obtain ⟨best, found⟩ := x
    refine LWp.sx (gs := []) (hs := []) rfl trivial ?_
    refine LWp.seq (LWp.ite rfl (fun hc => ?_) (fun hc => ?_))
    · simp only [decide_eq_true_eq, Int.ofNat_lt] at hc
      refine LWp.skip (LWp.seq (LWp.block ?_))
      refine LWp.sx (gs := []) (hs := []) rfl trivial ?_
      have hnum : Ev Tryz.prog 79 [I (k : Nat), I (((t.ties.map Tie.enc).length : Nat) : Int)] (ints (numsF (k : Nat) t.ties.length)) := by
        rw [hln]
        exact Ev.freeze (pnumbers_ev (k : Nat) t.ties.length (by omega) (by omega) (by omega))
      have hstep : wrongS t (best, found) k = if found = true ∧ (best.length < (numsF (k : Nat) t.ties.length).length ∨ ((numsF (k : Nat) t.ties.length).length = best.length ∧ cmpL (numsF (k : Nat) t.ties.length) best > 0)) then (best, found)
        else if (truthsL t (butF (k : Nat))).isEmpty = true then (best, found) else (numsF (k : Nat) t.ties.length, true) := rfl
      rw [hstep] at hsucc
      generalize numsF (k : Nat) t.ties.length = l at hnum hsucc
      refine LWp.sx (gs := []) (hs := [.ret (ints l)]) rfl ⟨hnum, trivial⟩ ?_
      refine LWp.seq (LWp.cutX (fun _ : Unit => True) (fun _ => el [(1, .pi t.enc), (2, ints best), (4, B found), (5, I (k : Nat)), (6, ints l), (19, I (2 ^ t.ties.length : Nat)), (20, I k), (48, B (decide (found = true ∧ (best.length < l.length ∨ (l.length = best.length ∧ cmpL l best > 0)))))]) (fun _ => []) (fun _ => []) ?_ ?_)
      · cases found with
        | false =>
          refine LWp.x (gs := [(29, false)]) (hs := []) rfl (by (repeat' (with_reducible apply And.intro)); (all_goals first | (with_reducible exact trivial) | (with_reducible rfl) | (with_reducible assumption) | ((with_reducible apply isB); first | exact rfl | exact beq_self_eq_true _) | omega | ((rfl)))) ?_
          exact ⟨(), trivial, Ent.el ⟨rfl, rfl, rfl, rfl, rfl, rfl, rfl, by show B false = B _; simp, trivial⟩⟩
        | true =>
          by_cases c1 : best.length < l.length
          · refine LWp.x (gs := [(29, true), (35, true)]) (hs := []) rfl (by simp; omega) ?_
            exact ⟨(), trivial, Ent.el ⟨rfl, rfl, rfl, rfl, rfl, rfl, rfl, by show B _ = B _; simp [c1], trivial⟩⟩
          · by_cases c2 : l.length = best.length
            · have hcmp := compare_ev l best
              refine LWp.x (gs := [(29, true), (35, false), (41, true)]) (hs := [.ret (I (cmpL l best))]) rfl (by simp [c2]; exact hcmp) ?_
              exact ⟨(), trivial, Ent.el ⟨rfl, rfl, rfl, rfl, rfl, rfl, rfl, by show B _ = B _; simp [c2], trivial⟩⟩
            · refine LWp.x (gs := [(29, true), (35, false), (41, false)]) (hs := []) rfl (by simp; omega) ?_
              exact ⟨(), trivial, Ent.el ⟨rfl, rfl, rfl, rfl, rfl, rfl, rfl, by show B _ = B _; simp [c1, c2], trivial⟩⟩
      intro _ _
      refine LWp.ite rfl (fun hb => ?_) (fun hb => LWp.skip ?_)
      · rw [decide_eq_true_iff] at hb
        rw [if_pos hb] at hsucc
        refine LWp.exit ?_
        refine LWp.x (gs := []) (hs := []) rfl ⟨by omega, trivial⟩ ?_
        refine ⟨k + 1, by omega, by omega, Ent.el ⟨rfl, ?_, ?_, rfl, rfl, trivial⟩⟩
        · rw [hsucc]; rfl
        · rw [hsucc]; rfl
      · rw [decide_eq_false_iff_not] at hb
        rw [if_neg hb] at hsucc
        refine LWp.seq (LWp.ops ?_)
        refine WOps.xn (gs := []) (hs := []) 2 rfl rfl trivial ?_
        refine WOps.cons (Op1.callR (Hin := []) (H0 := []) (plook_ev t (k : Nat)) rfl rfl (SubL.refl _) rfl ?_)
        rintro r2 Ho2 ⟨g1, g2, rfl, rfl⟩
        refine WOps.cons (Op1.callR (Hin := (MS.new t).heap g1 g2) (H0 := []) (some_ev hOK (by omega) (by omega) g1 g2 (MS.new t)) rfl rfl (SubL.refl _) rfl ?_)
        rintro r3 Ho3 ⟨rfl, m', rfl⟩
        rw [fair_truths hOK]
        refine WOps.nil ?_
        refine LWp.ent (Ent.trans (Ent.subH (H' := []) (List.nil_sublist _)) (Ent.el (l := [(1, .pi t.enc), (2, ints best), (4, B found), (6, ints l), (19, I (2 ^ t.ties.length : Nat)), (20, I k), (52, B (!(truthsL t (butF (k : Nat))).isEmpty))]) ⟨rfl, rfl, rfl, rfl, rfl, rfl, rfl, trivial⟩)) ?_
        cases hE : (truthsL t (butF (k : Nat))).isEmpty with
        | true =>
          rw [hE, if_pos rfl] at hsucc
          refine LWp.ite (b := false) rfl (fun h => by cases h) (fun _ => LWp.skip ?_)
          refine LWp.x (gs := []) (hs := []) rfl ⟨by omega, trivial⟩ ?_
          refine ⟨k + 1, by omega, by omega, Ent.el ⟨rfl, ?_, ?_, rfl, rfl, trivial⟩⟩
          · rw [hsucc]; rfl
          · rw [hsucc]; rfl
        | false =>
          rw [hE, if_neg (by decide)] at hsucc
          refine LWp.ite (b := true) rfl (fun _ => ?_) (fun h => by cases h)
          refine LWp.x (gs := []) (hs := []) rfl trivial ?_
          refine LWp.x (gs := []) (hs := []) rfl ⟨by omega, trivial⟩ ?_
          refine ⟨k + 1, by omega, by omega, Ent.el ⟨rfl, ?_, ?_, rfl, rfl, trivial⟩⟩
          · rw [hsucc]; rfl
          · rw [hsucc]; rfl
    · simp only [decide_eq_false_iff_not, Int.ofNat_lt] at hc
      have e : k = 2 ^ t.ties.length := by omega
      subst e
      rw [hx]
      exact LWp.exit ⟨(), trivial, Ent.el ⟨rfl, rfl, trivial⟩⟩
  · intro _ _
    refine LWp.seq (LWp.seq ?_)
    refine LWp.x (gs := []) (hs := []) rfl trivial ?_
    cases hf : (wrongF t (2 ^ t.ties.length)).2 with
    | true =>
      rw [hf, if_pos rfl] at hR
      refine LWp.ite (b := false) rfl (fun h => by cases h) (fun _ => LWp.skip ?_)
      rw [hR]
      refine LWp.sx (gs := []) (hs := []) rfl trivial ?_
      refine LWp.ret (retT (.inr rfl) (.many (by decide) ⟨.tmp ?_ rfl, .tmp ?_ rfl, trivial⟩))
      · rfl
      · rfl
    | false =>
      rw [hf, if_neg (by decide)] at hR
      refine LWp.ite (b := true) rfl (fun _ => ?_) (fun h => by cases h)
      refine LWp.sx (gs := []) (hs := []) rfl trivial ?_
      refine LWp.mono (err _ 9 hR rfl rfl) (by rintro e env H D ⟨rfl, h⟩; exact h)
end Go.Px

namespace Go.Px
open Go.Proofs Go.MapKept
def withT (t : Town) (x : Men) : Town := { t with ms := t.ms ++ [x] }
theorem withT_OK {t : Town} (h : t.OK) (h5 : t.ms.length ≤ 5) {x : Men} (hx : menE t x t.ms.length = 0) : (withT t x).OK := by
  obtain ⟨⟨a1, a2⟩, ⟨a3, a4⟩, ⟨a5, a6⟩, a7, a8, a9, a10⟩ := menE_zero.1 hx
  have hl : (withT t x).ms.length = t.ms.length + 1 := by simp [withT]
  refine ⟨h.ear, h.wf, h.vil0, h.vil1, by omega, fun i y hy => ?_, h.ties4, fun y hy => ?_⟩
  · have hcase : (i < t.ms.length ∧ t.ms[i]? = some y) ∨ (i = t.ms.length ∧ y = x) := by
      simp only [withT] at hy
      by_cases hi : i < t.ms.length
      · rw [List.getElem?_append_left hi] at hy; exact .inl ⟨hi, hy⟩
      · rw [List.getElem?_append_right (by omega)] at hy
        have hlt := (List.getElem?_eq_some_iff.1 hy).1
        simp only [List.length_singleton] at hlt
        have e : i = t.ms.length := by omega
        subst e
        rw [Nat.sub_self] at hy
        exact .inr ⟨rfl, by simpa using hy.symm⟩
    rcases hcase with ⟨_, hi⟩ | ⟨rfl, rfl⟩
    · have o := h.men i y hi
      have := o.par1
      exact ⟨o.sp0, o.sp1, o.v0, o.v1, o.par0, by omega, o.lo0, o.lh, o.hi1, o.own⟩
    · exact ⟨a1, a2, a3, a4, a5, by omega, a7, a8, a9, a10⟩
  · have := h.tie y hy
    refine ⟨this.1, ?_, this.2.2.1, ?_, this.2.2.2.2⟩ <;> omega
def whoI (p : List Nat) (n : Nat) (s : Nat) (k : Nat) : Nat := (List.range k).foldl (fun s i => if per p i = per p n then s ||| 2 ^ i else s) s
theorem whoI_succ (p : List Nat) (n s k : Nat) : whoI p n s (k + 1) = if per p k = per p n then whoI p n s k ||| 2 ^ k else whoI p n s k := by
  unfold whoI
  rw [List.range_succ, List.foldl_append]; rfl
theorem whoI_lt (p : List Nat) (n : Nat) {s : Nat} (hs : s < 32) : ∀ k, k ≤ 5 → whoI p n s k < 32
  | 0, _ => hs
  | k + 1, hk => by
    rw [whoI_succ]
    have ih := whoI_lt p n hs k (by omega)
    split
    · exact Nat.or_lt_two_pow (n := 5) ih (Nat.pow_lt_pow_right (by omega) (by omega))
    · exact ih
def whoSet (n : Nat) (L : List (List Nat)) : Nat := L.foldl (fun s p => whoI p n s n) 0
abbrev whoS (n : Nat) (s : Nat) (p : List Nat) : J × Nat := (.go, whoI p n s n)
theorem whoS_run (n : Nat) (L : List (List Nat)) : runL (whoS n) L 0 = (.go, whoSet n L) := runL_go (fun _ _ => rfl) L 0
theorem whoSet_lt (n : Nat) (h : n ≤ 5) (L : List (List Nat)) : whoSet n L < 32 := by
  have key : ∀ (L : List (List Nat)) (s : Nat), s < 32 → L.foldl (fun s p => whoI p n s n) s < 32 := by
    intro L
    induction L with
    | nil => intro s hs; exact hs
    | cons p L ih => intro s hs; exact ih _ (whoI_lt p n hs n h)
  exact key L 0 (by omega)
def whoT (t : Town) (x : Men) : List Int × Int :=
  if someE t (entE t (menE t x t.ms.length)) = 0 then (numsF (whoSet t.ms.length (truthsL (withT t x) noBut) : Nat) t.ms.length, 0) else ([], someE t (entE t (menE t x t.ms.length)))
theorem pwho_ev (t : Town) (hw : t.wf) (x : Men) : Ev Tryz.prog 29 [.agg t.enc, .agg x.enc] (.tup [ints (whoT t x).1, I (whoT t x).2]) := by
  have hml : (t.ms.map Men.enc).length = t.ms.length := List.length_map _
  refine Ev.intro fn29 ?_
  refine LWp.sx (gs := []) (hs := [.lin, .ice]) rfl ⟨⟨rfl, rfl⟩, ⟨rfl, rfl⟩, trivial⟩ ?_
  refine LWp.shareB (t := 2) rfl fun b2 => ?_
  refine LWp.ent (Ent.ofH (H' := [(b2, .cells 29 t.enc)]) rfl) ?_
  refine LWp.seq (LWp.ops ?_)
  refine WOps.xn (gs := []) (hs := [.at 0]) 2 rfl rfl ⟨rfl, trivial⟩ ?_
  refine WOps.cons (Op1.callR (Hin := [(b2, .cells 29 t.enc)]) (H0 := []) (enterT_ev t hw 77 [.po b2 0, .pi x.enc] (menE t x t.ms.length) [(b2, .cells 29 t.enc)] (fun h => by
    have hO := (townE_zero hw).1 h
    have := hO.1.ear.ss5
    have := hO.1.vil0
    have := hO.1.vil1
    exact who1_ev t x b2 (by omega) (by omega) (by omega) (by omega))) rfl rfl (SubL.refl _) rfl ?_)
  rintro r1 Ho1 (⟨hE, g1, g2, m, rfl, rfl⟩ | ⟨hE, rfl, rfl⟩)
  case inr =>
    have hR : whoT t x = ([], someE t (entE t (menE t x t.ms.length))) := by unfold whoT; rw [if_neg hE]
    rw [hR]
    refine WOps.xd (gs := []) (hs := []) rfl trivial ?_
    refine LWp.seq (LWp.seq ?_)
    refine LWp.x (gs := []) (hs := []) rfl trivial ?_
    refine LWp.ite (b := true) (by show B _ = B _; exact congrArg B (by rw [bne_iff_ne]; exact hE)) (fun _ => ?_) (fun h => by cases h)
    refine LWp.sx (gs := []) (hs := []) rfl trivial ?_
    refine LWp.ent (Ent.nilSl (t := 4) 1 rfl) ?_
    refine LWp.ret (retT (.inr rfl) (.many (by decide) ⟨.tmp ?_ rfl, .tmp ?_ rfl, trivial⟩))
    · rfl
    · rfl
  obtain ⟨hE1, _⟩ := someE_zero.1 hE
  obtain ⟨ht0, h20⟩ := entE_zero.1 hE1
  obtain ⟨hOK, h5⟩ := (townE_zero hw).1 ht0
  have hOW := withT_OK hOK h5 h20
  have hwl : (withT t x).ms.length = t.ms.length + 1 := by simp [withT]
  have hR : whoT t x = (numsF (whoSet t.ms.length (truthsL (withT t x) noBut) : Nat) t.ms.length, 0) := by unfold whoT; rw [if_pos hE]
  have hft : fairL (withT t x) (butF 0) = truthsL (withT t x) noBut := by rw [butF_0, fair_truths hOW]
  have hwenc : (withT t x).enc = t.ear.enc ++ [I t.vil, .sl 5 (t.ms.map Men.enc ++ [x.enc]), tiesV t.ties] := by
    simp only [withT, Town.enc, mensV, List.map_append, List.map_cons, List.map_nil]
  rw [hR]
  refine WOps.xd (gs := []) (hs := []) rfl trivial ?_
  refine LWp.seq (LWp.seq ?_)
  refine LWp.x (gs := []) (hs := []) rfl trivial ?_
  refine LWp.ite (b := false) rfl (fun h => by cases h) (fun _ => LWp.skip ?_)
  refine LWp.ent (Ent.trans (Ent.ofH (H' := m.heap g1 g2 ++ [(b2, .cells 29 t.enc)]) rfl) (Ent.subH (H' := [(b2, .cells 29 t.enc)]) (List.sublist_append_right _ _))) ?_
  refine LWp.sx (gs := []) (hs := [.at 0, .lin]) rfl ⟨rfl, rfl, ⟨rfl, rfl, rfl, Nat.le_refl 1⟩, trivial⟩ ?_
  refine LWp.ent (Ent.freezeLbox (t := 8) rfl) ?_
  have hcl := clone_ev t.ms (by omega)
  refine LWp.seq (LWp.d (gs := []) (hs := [.at 0, .ret (.lin 49 5 (t.ms.map Men.enc)), .ice]) hmix rfl (by kernel_rfl) ⟨rfl, hcl, rfl, ⟨by simp only [hml, chunk, List.length_cons, List.length_nil]; omega, by simp only [hml, chunk, List.length_cons, List.length_nil]; omega⟩, trivial⟩ ?_)
  refine WOps.ent (Ent.freezeLin (t := 29) rfl) ?_
  refine WOps.hd (gs := []) (hs := [.stO 0]) rfl ⟨⟨rfl, rfl, rfl, rfl, (show 5 ≤ 6 by omega)⟩, trivial⟩ ?_
  refine LWp.ent (Ent.trans (Ent.ofH (H' := [(b2, .cells 29 (withT t x).enc)]) (by rw [hwenc]; rfl)) (Ent.el (l := [(2, .po b2 0), (8, .pi [I (t.ms.length : Nat)])]) ⟨rfl, by show AV.pi [I _] = _; rw [hml], trivial⟩)) ?_
  refine LWp.sx (gs := []) (hs := [.lin]) rfl ⟨rfl, ⟨rfl, rfl, rfl, Nat.le_refl 1⟩, trivial⟩ ?_
  refine LWp.shareB (t := 9) rfl fun b9 => ?_
  refine LWp.ent (Ent.ofH (H' := [(b9, .cells 3 [I (0 : Nat)]), (b2, .cells 29 (withT t x).enc)]) rfl) ?_
  refine LWp.seq (LWp.seq (LWp.ops ?_))
  refine WOps.xn (gs := []) (hs := [.at 1]) 1 rfl rfl ⟨rfl, trivial⟩ ?_
  refine WOps.cons (Op1.callR (Hin := []) (H0 := [(b9, .cells 3 [I (0 : Nat)]), (b2, .cells 29 (withT t x).enc)]) (plook_ev (withT t x) 0) rfl rfl (SubL.refl _) rfl ?_)
  rintro r2 Ho2 ⟨g1, g2, rfl, rfl⟩
  refine WOps.xd (gs := []) (hs := [.ret (.fn (.func 105) [] [.pi [tp (withT t x) 0 g1 g2]])]) rfl ⟨fair_ev (withT t x) 0 g1 g2, trivial⟩ ?_
  refine LWp.block ?_
  refine LWp.fair hOW (but := 0) (by omega) (by omega) (X := Nat) (whoS t.ms.length) (fun s => [(b9, .cells 3 [I (s : Nat)])]) 0 (H0 := [(b2, .cells 29 (withT t x).enc)]) (MS.new _) (el [(8, .pi [I (t.ms.length : Nat)]), (9, .po b9 0)]) rfl rfl (el_any ⟨rfl, rfl, trivial⟩ rfl) (by decide) rfl ?_ ?_
  · intro l L1 p L2 m hL _ hg
    have hs32 : (runL (whoS t.ms.length) L1 0).2 < 32 := by rw [whoS_run]; exact whoSet_lt _ h5 L1
    generalize (runL (whoS t.ms.length) L1 0).2 = s at hs32
    obtain ⟨hpo, hp6⟩ := perOK_of hOW.ms6 hg
    refine LWp.x (gs := []) (hs := [.lin]) rfl ⟨rfl, ⟨rfl, rfl, rfl, Nat.le_refl 6⟩, trivial⟩ ?_
    refine ⟨rfl, LWp.ent (Ent.freezeLbox (t := 10) rfl) ?_⟩
    refine LWp.ent (Ent.el (l := [(8, .pi [I (t.ms.length : Nat)]), (9, .po b9 0), (10, .pi (pcells p))]) ⟨rfl, rfl, rfl, trivial⟩) ?_
    refine LWp.block ?_
    refine LWp.sx (gs := []) (hs := []) rfl trivial ?_
    refine LWp.block ?_
    refine LWp.loopN (fun k : Nat => k ≤ t.ms.length) (fun k => el [(8, .pi [I (t.ms.length : Nat)]), (9, .po b9 0), (10, .pi (pcells p)), (36, I (t.ms.length : Nat)), (37, I k)]) (fun k => m.heap g1 g2 ++ [(b9, .cells 3 [I (whoI p t.ms.length s k : Nat)])]) (fun _ => []) (fun k => t.ms.length - k) 0 (by omega)
      (Ent.trans (Ent.ofH (H' := m.heap g1 g2 ++ [(b9, .cells 3 [I (whoI p t.ms.length s 0 : Nat)])]) rfl) (Ent.el (l := [(8, .pi [I (t.ms.length : Nat)]), (9, .po b9 0), (10, .pi (pcells p)), (36, I (t.ms.length : Nat)), (37, I 0)]) ⟨rfl, rfl, rfl, rfl, rfl, trivial⟩)) ?_
    intro k hk
    have hwk := whoI_lt p t.ms.length hs32 k (by omega)
    have hsucc := whoI_succ p t.ms.length s k
    refine LWp.sx (gs := []) (hs := []) rfl trivial ?_
    refine LWp.seq (LWp.ite rfl (fun hc => ?_) (fun hc => ?_))
    · simp only [decide_eq_true_eq, Int.ofNat_lt] at hc
      have l1 := setc_pre (per p) (k := k) (by omega)
      have l2 := setc_pre (per p) (k := t.ms.length) (by omega)
      have hp2 : (2 : Nat) ^ k < 32 := by
        have := Nat.pow_lt_pow_right (a := 2) (m := k) (n := 5) (by omega) (by omega)
        omega
      have hpe : (1 : Int) * 2 ^ ((k : Nat) : Int).toNat = ((2 ^ k : Nat) : Int) := by simp
      have hp3 : (1 : Int) * 2 ^ ((k : Nat) : Int).toNat < 32 := by rw [hpe]; exact Int.ofNat_lt.2 hp2
      have hp4 : 0 ≤ (1 : Int) * 2 ^ ((k : Nat) : Int).toNat := by rw [hpe]; exact Int.natCast_nonneg _
      generalize whoI p t.ms.length s k = sk at hwk hsucc
      refine LWp.skip (LWp.seq (LWp.block ?_))
      refine LWp.sx (gs := []) (hs := []) rfl trivial ?_
      refine LWp.sd (gs := []) (hs := [.pre [I (per p k : Nat)], .pre [I (per p t.ms.length : Nat)]]) hmix rfl (by kernel_rfl) ⟨⟨⟨by omega, by omega⟩, l1⟩, ⟨⟨by omega, by omega⟩, l2⟩, trivial⟩ ?_
      by_cases he : per p k = per p t.ms.length
      · rw [if_pos he] at hsucc
        refine LWp.ite (b := true) (by show B _ = B _; exact congrArg B (by rw [beq_iff_eq, he])) (fun _ => ?_) (fun h => by cases h)
        refine LWp.d (gs := []) (hs := [.at 2]) hmix rfl (by kernel_rfl) ⟨rfl, ⟨by omega, by omega, by omega, by omega⟩, ⟨⟨by omega, by omega⟩, by omega, by omega⟩, trivial⟩ ?_
        refine WOps.hd (gs := []) (hs := [.stO 2]) rfl ⟨⟨rfl, rfl, rfl, rfl, Nat.le_refl 1⟩, trivial⟩ ?_
        refine LWp.x (gs := []) (hs := []) rfl ⟨by omega, trivial⟩ ?_
        refine ⟨k + 1, by omega, by omega, Ent.trans (Ent.ofH ?_) (Ent.el ⟨rfl, rfl, rfl, rfl, rfl, trivial⟩)⟩
        show m.heap g1 g2 ++ [(b9, HObj.cells _ [I ((((sk : Nat) : Int).toNat ||| ((1 : Int) * 2 ^ ((k : Nat) : Int).toNat).toNat : Nat))])] = _
        rw [hsucc, hpe, Int.toNat_natCast, Int.toNat_natCast]
      · rw [if_neg he] at hsucc
        refine LWp.ite (b := false) (by show B _ = B _; exact congrArg B (by rw [beq_eq_false_iff_ne]; omega)) (fun h => by cases h) (fun _ => LWp.skip ?_)
        refine LWp.x (gs := []) (hs := []) rfl ⟨by omega, trivial⟩ ?_
        refine ⟨k + 1, by omega, by omega, Ent.trans (Ent.ofH (by rw [hsucc])) (Ent.el ⟨rfl, rfl, rfl, rfl, rfl, trivial⟩)⟩
    · simp only [decide_eq_false_iff_not, Int.ofNat_lt] at hc
      have e : k = t.ms.length := by omega
      subst e
      exact LWp.exit ⟨rfl, m, List.Sublist.refl _⟩
  · intro m' rD
    rw [hft, whoS_run]
    have hlt := whoSet_lt t.ms.length h5 (truthsL (withT t x) noBut)
    generalize whoSet t.ms.length (truthsL (withT t x) noBut) = s at hlt
    show LWp _ _ _ _ _ _ _ _
    have hnum : Ev Tryz.prog 79 [I (s : Nat), I (t.ms.length : Nat)] (ints (numsF (s : Nat) t.ms.length)) := Ev.freeze (pnumbers_ev (s : Nat) t.ms.length (by omega) (by omega) (by omega))
    refine LWp.sx (gs := []) (hs := [.at 3, .ret (ints (numsF (s : Nat) t.ms.length))]) rfl ⟨rfl, hnum, trivial⟩ ?_
    exact LWp.ret ⟨.inr rfl, _, ⟨0, rfl, rfl⟩, .many (by decide) ⟨.tmp rfl rfl, .tmp rfl rfl, trivial⟩⟩
end Go.Px

namespace Go.Px
open Go.Proofs Go.MapKept
structure Small (p : List Nat) : Prop where
  len : p.length ≤ 1000
  lt : ∀ i, per p i ≤ 1000
end Go.Px

namespace Go.Px
open Go.Proofs Go.MapKept
structure BW (n : Int) (w : Nat) (b : List Sp) : Prop where
  len : b.length = w
  bd : ∀ k, spB n (spAt b k)
theorem BW.mono {n m : Int} {w : Nat} {b : List Sp} (h : BW n w b) (hn : n ≤ m) : BW m w b := ⟨h.len, fun k => spB_mono hn (h.bd k)⟩
theorem BW.step {n : Int} {w : Nat} {b : List Sp} (h : BW n w b) (_hn : 0 ≤ n) {x y : Nat} (hx : x < w) (hy : y < w) : BW (n + 60) w (yrStep b x y) := by
  have hl := h.len
  refine ⟨by rw [yrStep_len]; exact hl, fun k => ?_⟩
  unfold yrStep
  rw [spAt_set _ _ _ _ (by simpa using by omega), spAt_set _ _ _ _ (by omega)]
  have bx := h.bd x
  have by_ := h.bd y
  have bk := h.bd k
  unfold spB older younger at *
  split
  · simp only; omega
  · split
    · simp only; omega
    · omega
theorem round_BW {ks : List (Nat × Nat)} {w : Nat} {b : List Sp} (h : BW 199 w b) (hk : ∀ k ∈ ks, k.1 < b.length ∧ k.2 < b.length) (he : emptyS (yrRound ks (b, false)).1 = false) : BW 199 w (yrRound ks (b, false)).1 := by
  obtain ⟨s1, _⟩ := yrRound_sub ks b false hk
  refine ⟨by rw [yrRound_len]; exact h.len, fun k => ?_⟩
  by_cases hk6 : k < w
  · have h1 := not_empty_at he (k := k) (by rw [yrRound_len, h.len]; exact hk6)
    have h2 := s1.2 k
    have h3 := h.bd k
    unfold SubS1 at h2
    unfold spB at *
    omega
  · have e : spAt (yrRound ks (b, false)).1 k = (0, 0) := by
      unfold spAt
      rw [List.getElem?_eq_none (by rw [yrRound_len, h.len]; omega)]; rfl
    rw [e]
    unfold spB; simp
structure RInv (t : Town) (p : List Nat) (b : List Sp) (more : Bool) : Prop where
  len : b.length = cnt p
  bw : emptyS b = false → BW 199 (cnt p) b
  go : more = true → yearsW t p (cnt p) = yearsB (kids t.ms p) b
  end_ : more = false → yearsW t p (cnt p) = b
theorem RInv.done {t : Town} {p : List Nat} {b : List Sp} {more : Bool} (h : RInv t p b more) (hc : (more && !emptyS b) = false) : yearsW t p (cnt p) = b := by
  cases more with
  | false => exact h.end_ rfl
  | true =>
    rw [h.go rfl]
    exact yearsB_empty (by simpa using hc)
theorem RInv.next {t : Town} (h : t.OK) {p : List Nat} (hg : Grp t.ms.length p) (hk : Kin1 t p) {b : List Sp} (hi : RInv t p b true) (hb : emptyS b = false) :
    RInv t p (yrRound (kids t.ms p) (b, false)).1 (yrRound (kids t.ms p) (b, false)).2 ∧
    (if ((yrRound (kids t.ms p) (b, false)).2 && !emptyS (yrRound (kids t.ms p) (b, false)).1) = true then width (yrRound (kids t.ms p) (b, false)).1 + 1 else 0) < width b + 1 := by
  have hks : ∀ k ∈ kids t.ms p, k.1 < b.length ∧ k.2 < b.length ∧ k.1 ≠ k.2 := by
    have := kids_ok h hg hk (w := cnt p) (Nat.le_refl _)
    rw [born0_len] at this
    rw [hi.len]
    exact this
  have hks2 : ∀ k ∈ kids t.ms p, k.1 < b.length ∧ k.2 < b.length := fun k hk => ⟨(hks k hk).1, (hks k hk).2.1⟩
  have e0 := hi.go rfl
  refine ⟨⟨by rw [yrRound_len]; exact hi.len, fun he => round_BW (hi.bw hb) hks2 he, fun hm => ?_, fun hm => ?_⟩, ?_⟩
  · rw [e0, yearsB_more hks hb hm]
  · rw [e0, yearsB_done hb hm]
  · split
    · rename_i hm
      rw [Bool.and_eq_true, Bool.not_eq_true'] at hm
      have := width_round hks hm.1 hm.2
      omega
    · omega
end Go.Px

namespace Go.Px
open Go.Proofs Go.MapKept
def butL (l : List Int) : Nat → Bool := fun i => l.any (· == (i : Int))
theorem butL_nil : butL [] = noBut := rfl
end Go.Px

namespace Go.Px
open Go.Proofs Go.MapKept
theorem cmpL_gt : ∀ (a b : List Int), cmpL a b > 0 ↔ lessL b a = true
  | [], [] => by simp [cmpL, lessL]
  | [], _ :: _ => by simp [cmpL, lessL]
  | _ :: _, [] => by simp [cmpL, lessL]
  | a :: x, b :: y => by
    simp only [cmpL, lessL]
    by_cases h : a = b
    · simp only [h, if_true]; exact cmpL_gt x y
    · have h' : ¬ b = a := fun e => h e.symm
      simp only [h, h', if_false]
      by_cases g : a < b
      · simp only [g, if_true, decide_eq_true_eq]; omega
      · simp only [g, if_false, decide_eq_true_eq]; omega
def sN (n s : Nat) : List Nat := (List.range n).filter fun k => s.testBit k
theorem sN_mem {n s k : Nat} : k ∈ sN n s ↔ k < n ∧ s.testBit k = true := by simp [sN]
theorem sN_inc (n s : Nat) : Inc (sN n s) := List.Pairwise.filter _ List.pairwise_lt_range
theorem sN_eq (n s : Nat) : numsF (s : Nat) n = natI (sN n s) := numsF_eq fun _ _ => rfl
theorem truths_congr {t : Town} {f g : Nat → Bool} (h : ∀ i, i < t.ties.length → f i = g i) : truthsL t f = truthsL t g := by
  have ht : ∀ p, tiedF t f p = tiedF t g p := by
    intro p
    unfold tiedF
    rw [Bool.eq_iff_iff, List.all_eq_true, List.all_eq_true]
    refine forall_congr' fun i => ?_
    rw [List.mem_range]
    exact ⟨fun k hi => by rw [← h i hi]; exact k hi, fun k hi => by rw [h i hi]; exact k hi⟩
  unfold truthsL
  refine List.filter_congr fun p _ => ?_
  unfold canR
  rw [ht]
def setG (t : Town) (c : List Nat) : Bool := !(truthsL t (butL (natI c))).isEmpty
theorem set_good (t : Town) (s : Nat) : (truthsL t (butF (s : Nat))).isEmpty = !setG t (sN t.ties.length s) := by
  unfold setG
  rw [Bool.not_not]
  congr 1
  refine truths_congr fun i hi => ?_
  rw [Bool.eq_iff_iff]
  unfold butF butL
  rw [gives_bit _ _ (by omega), Int.toNat_natCast, List.any_eq_true]
  constructor
  · intro h
    exact ⟨i, List.mem_map.2 ⟨i, sN_mem.2 ⟨hi, h⟩, rfl⟩, by simp⟩
  · rintro ⟨x, hx, he⟩
    obtain ⟨k, hk, rfl⟩ := List.mem_map.1 hx
    have : k = i := Int.ofNat_inj.1 (beq_iff_eq.1 he)
    subst this
    exact (sN_mem.1 hk).2
theorem set_of {n m : Nat} {c : List Nat} (hc : c ∈ chN n m) : ∃ s, s < 2 ^ n ∧ sN n s = c := by
  obtain ⟨c1, c2, c3⟩ := (chN_iff _ _ _).1 hc
  have hb : ∀ k, (setN (natI c) 0).testBit k = true ↔ k ∈ c := by
    intro k
    rw [setN_bit]
    simp only [Nat.zero_testBit, Bool.false_eq_true, false_or]
    constructor
    · rintro ⟨j, hj, rfl⟩
      obtain ⟨v, hv, rfl⟩ := List.mem_map.1 hj
      simpa using hv
    · intro h
      exact ⟨k, List.mem_map.2 ⟨k, h, rfl⟩, by simp⟩
  refine ⟨setN (natI c) 0, ?_, ?_⟩
  · refine Nat.lt_pow_two_of_testBit _ fun i hi => ?_
    cases h : (setN (natI c) 0).testBit i with
    | false => rfl
    | true => have := c3 i ((hb i).1 h); omega
  · have hp : (sN n (setN (natI c) 0)).Perm c := by
      refine (List.perm_ext_iff_of_nodup (inc_nodup (sN_inc _ _)) (inc_nodup c2)).2 fun k => ?_
      rw [sN_mem, hb]
      exact ⟨fun h => h.2, fun h => ⟨c3 k h, h⟩⟩
    exact List.Perm.eq_of_pairwise (le := (· < ·)) (fun a b _ _ h1 h2 => absurd h1 (by omega)) (sN_inc _ _) c2 hp
theorem wrong_inv (t : Town) : ∀ k, ((wrongF t k).2 = true → ∃ s, s < k ∧ setG t (sN t.ties.length s) = true ∧ (wrongF t k).1 = natI (sN t.ties.length s)) ∧
    (∀ s, s < k → setG t (sN t.ties.length s) = true → (wrongF t k).2 = true ∧ fewerL (natI (sN t.ties.length s)) (wrongF t k).1 = false)
  | 0 => by
    refine ⟨fun h => ?_, fun s hs => by omega⟩
    have : (wrongF t 0).2 = false := rfl
    rw [this] at h; cases h
  | k + 1 => by
    obtain ⟨i1, i2⟩ := wrong_inv t k
    rw [wrongF_succ]
    generalize wrongF t k = x at i1 i2
    obtain ⟨best, found⟩ := x
    simp only at i1 i2
    unfold wrongS
    rw [set_good, sN_eq]
    simp only
    have lift : (∃ s, s < k ∧ setG t (sN t.ties.length s) = true ∧ best = natI (sN t.ties.length s)) → ∃ s, s < k + 1 ∧ setG t (sN t.ties.length s) = true ∧ best = natI (sN t.ties.length s) := by
      rintro ⟨s, h1, h2⟩; exact ⟨s, by omega, h2⟩
    split
    · rename_i hc
      refine ⟨fun h => lift (i1 h), fun s hs hg => ⟨hc.1, ?_⟩⟩
      show fewerL _ best = false
      by_cases e : s = k
      · subst e
        unfold fewerL
        rcases hc.2 with h | ⟨h, g⟩
        · rw [if_neg (by omega), decide_eq_false_iff_not]; omega
        · rw [if_pos h]
          have := (cmpL_gt _ _).1 g
          cases q : lessL (natI (sN t.ties.length s)) best with
          | false => rfl
          | true => have := lessL_trans' this q; rw [lessL_refl] at this; cases this
      · exact (i2 s (by omega) hg).2
    · rename_i hc
      cases hg0 : setG t (sN t.ties.length k) with
      | false =>
        rw [if_pos (by decide)]
        refine ⟨fun h => lift (i1 h), fun s hs hg => ?_⟩
        by_cases e : s = k
        · subst e; rw [hg0] at hg; cases hg
        · exact i2 s (by omega) hg
      | true =>
        rw [if_neg (by decide)]
        refine ⟨fun _ => ⟨k, by omega, hg0, rfl⟩, fun s hs hg => ⟨rfl, ?_⟩⟩
        show fewerL _ (natI (sN t.ties.length k)) = false
        by_cases e : s = k
        · subst e; exact fewerL_irrefl _
        · obtain ⟨hf, hl⟩ := i2 s (by omega) hg
          have hle : fewerL best (natI (sN t.ties.length k)) = false := by
            unfold fewerL
            split
            · rename_i hlen
              cases q : lessL best (natI (sN t.ties.length k)) with
              | false => rfl
              | true => exact absurd ⟨hf, .inr ⟨hlen.symm, (cmpL_gt _ _).2 q⟩⟩ hc
            · rename_i hlen
              rw [decide_eq_false_iff_not]
              intro h
              exact hc ⟨hf, .inl h⟩
          cases q : fewerL (natI (sN t.ties.length s)) (natI (sN t.ties.length k)) with
          | false => rfl
          | true =>
            by_cases e : best = natI (sN t.ties.length k)
            · rw [e, q] at hl; cases hl
            · rw [fewerL_trans q (fewerL_total e hle)] at hl; cases hl
theorem chN_of {n s : Nat} : sN n s ∈ chN n (sN n s).length := (chN_iff _ _ _).2 ⟨rfl, sN_inc _ _, fun _v hv => (sN_mem.1 hv).1⟩
theorem wrong_plain {t : Town} {m i : Nat} {c : List Nat} (hi : (chN t.ties.length m)[i]? = some c) (hg : setG t c = true) (hm0 : ∀ m', m' < m → ∀ c' ∈ chN t.ties.length m', setG t c' = false)
    (hi0 : ∀ j c', j < i → (chN t.ties.length m)[j]? = some c' → setG t c' = false) : (wrongF t (2 ^ t.ties.length)).2 = true ∧ (wrongF t (2 ^ t.ties.length)).1 = natI c := by
  have hcm := List.mem_of_getElem? hi
  obtain ⟨sc, hsc, rfl⟩ := set_of hcm
  have hcl := ((chN_iff _ _ _).1 hcm).1
  obtain ⟨i1, i2⟩ := wrong_inv t (2 ^ t.ties.length)
  obtain ⟨hf, hmin⟩ := i2 sc hsc hg
  obtain ⟨s, hs, hgs, hb⟩ := i1 hf
  refine ⟨hf, ?_⟩
  rw [hb] at hmin ⊢
  have hM := chN_of (n := t.ties.length) (s := s)
  generalize sN t.ties.length sc = c at *
  generalize sN t.ties.length s = d at *
  rcases Nat.lt_trichotomy d.length m with hlt | heq | hgt
  · have := hm0 _ hlt _ hM
    rw [hgs] at this; cases this
  · rw [heq] at hM
    obtain ⟨i', hi'⟩ := List.mem_iff_getElem?.1 hM
    rcases Nat.lt_trichotomy i' i with hl | rfl | hl
    · have := hi0 i' _ hl hi'
      rw [hgs] at this; cases this
    · rw [hi] at hi'; cases hi'; rfl
    · have hso := List.pairwise_iff_getElem.1 (chN_sorted t.ties.length m)
      obtain ⟨p1, p2⟩ := List.getElem?_eq_some_iff.1 hi
      obtain ⟨q1, q2⟩ := List.getElem?_eq_some_iff.1 hi'
      have := hso i i' p1 q1 hl
      rw [p2, q2] at this
      unfold fewerL at hmin
      rw [natI_len, natI_len, if_pos (by omega), this] at hmin
      cases hmin
  · unfold fewerL at hmin
    rw [natI_len, natI_len, if_neg (by omega), decide_eq_false_iff_not] at hmin
    omega
end Go.Px

namespace Go.Px
open Go.Proofs Go.MapKept
theorem lspan_ev (a b : Int) : Ev Tryz.prog 48 [I a, I b] (.agg [I a, I b]) := by
  refine Ev.intro fn48 ?_
  refine LWp.sx (gs := []) (hs := [.lin]) rfl ⟨rfl, trivial⟩ ?_
  refine LWp.sx (gs := []) (hs := []) rfl ⟨⟨rfl, rfl, rfl, by decide⟩, trivial⟩ ?_
  refine LWp.ent (Ent.freezeLbox (t := 4) rfl) (LWp.ret (retT (.inr rfl) (.one (.cellI (n := some 2) (upd_same _ _ _) (by kernel_rfl) rfl))))
theorem lmention_ev (x : Men) : Ev Tryz.prog 68 [I x.sp, I x.v, I x.lo, I x.hi, I x.par] (.agg x.enc) := by
  refine Ev.intro fn68 ?_
  refine LWp.sx (gs := []) (hs := [.lin]) rfl ⟨rfl, trivial⟩ ?_
  refine LWp.sx (gs := []) (hs := [.ret (.agg [I x.lo, I x.hi])]) rfl ⟨lspan_ev _ _, ⟨rfl, rfl, rfl, by decide⟩, trivial⟩ ?_
  refine LWp.ent (Ent.freezeLbox (t := 10) rfl) (LWp.ret (retT (.inr rfl) (.one (.cellI (n := some 5) (upd_same _ _ _) (by kernel_rfl) rfl))))
theorem ltie_ev (s : Bool) : Ev Tryz.prog 111 [B s] (.agg (Tie.enc ⟨0, 1, s⟩)) := by
  refine Ev.intro fn111 ?_
  refine LWp.sx (gs := []) (hs := [.lin]) rfl ⟨rfl, trivial⟩ ?_
  refine LWp.sx (gs := []) (hs := []) rfl ⟨⟨rfl, rfl, rfl, by decide⟩, trivial⟩ ?_
  refine LWp.ent (Ent.freezeLbox (t := 2) rfl) (LWp.ret (retT (.inr rfl) (.one (.cellI (n := some 3) (upd_same _ _ _) (by kernel_rfl) rfl))))
def townB (l : List Tie) : Town := ⟨bookB, 2, [⟨0, 0, 100, 110, -1⟩, ⟨1, -1, 105, 120, -1⟩, ⟨2, 1, 100, 130, -1⟩, ⟨3, -1, 130, 140, 0⟩], l⟩
def tiesX : Nat → List Tie
  | 0 => []
  | 1 => [⟨0, 1, true⟩]
  | _ => [⟨0, 1, true⟩, ⟨0, 1, false⟩]
theorem town_ev (k : Nat) (hk : k ≤ 2) : Ev Tryz.prog 67 [I k] (.agg (townB (tiesX k)).enc) := by
  have hb := book_ev
  have hT : (townB (tiesX k)).enc = bookB.enc ++ [I 2, .sl 5 [Men.enc ⟨0, 0, 100, 110, -1⟩, Men.enc ⟨1, -1, 105, 120, -1⟩, Men.enc ⟨2, 1, 100, 130, -1⟩, Men.enc ⟨3, -1, 130, 140, 0⟩], tiesV (tiesX k)] := rfl
  rw [hT]
  clear hT
  generalize bookB = bk at hb ⊢
  refine Ev.intro fn67 ?_
  refine LWp.sx (gs := []) (hs := [.lin]) rfl ⟨rfl, trivial⟩ ?_
  have m0 := lmention_ev ⟨0, 0, 100, 110, -1⟩
  have m1 := lmention_ev ⟨1, -1, 105, 120, -1⟩
  have m2 := lmention_ev ⟨2, 1, 100, 130, -1⟩
  have m3 := lmention_ev ⟨3, -1, 130, 140, 0⟩
  refine LWp.seq (LWp.ops ?_)
  refine WOps.xn (gs := []) (hs := [.ret (.agg bk.enc), .ret (.agg (Men.enc ⟨0, 0, 100, 110, -1⟩)), .ret (.agg (Men.enc ⟨1, -1, 105, 120, -1⟩)), .ret (.agg (Men.enc ⟨2, 1, 100, 130, -1⟩)), .ret (.agg (Men.enc ⟨3, -1, 130, 140, 0⟩))]) 5 rfl rfl ⟨hb, m0, m1, m2, m3, trivial⟩ ?_
  refine WOps.ent (Ent.el (l := [(0, I k), (2, .lbox 29 [I 0, .v (.slice none 0 0), .v (.slice none 0 0), I 0, .v (.slice none 0 0), .v (.slice none 0 0)]), (4, .agg bk.enc), (5, .agg (Men.enc ⟨0, 0, 100, 110, -1⟩)), (6, .agg (Men.enc ⟨1, -1, 105, 120, -1⟩)), (7, .agg (Men.enc ⟨2, 1, 100, 130, -1⟩)), (8, .agg (Men.enc ⟨3, -1, 130, 140, 0⟩))]) ⟨rfl, rfl, rfl, rfl, rfl, rfl, rfl, trivial⟩) ?_
  refine WOps.cons (Op1.bsliceI (q := Men.enc ⟨0, 0, 100, 110, -1⟩ ++ Men.enc ⟨1, -1, 105, 120, -1⟩ ++ Men.enc ⟨2, 1, 100, 130, -1⟩ ++ Men.enc ⟨3, -1, 130, 140, 0⟩) ?_ ?_ ?_)
  · kernel_rfl
  · rfl
  have hch : chunk 5 4 (Men.enc ⟨0, 0, 100, 110, -1⟩ ++ Men.enc ⟨1, -1, 105, 120, -1⟩ ++ Men.enc ⟨2, 1, 100, 130, -1⟩ ++ Men.enc ⟨3, -1, 130, 140, 0⟩) = [Men.enc ⟨0, 0, 100, 110, -1⟩, Men.enc ⟨1, -1, 105, 120, -1⟩, Men.enc ⟨2, 1, 100, 130, -1⟩, Men.enc ⟨3, -1, 130, 140, 0⟩] := by kernel_rfl
  rw [hch]
  clear hch
  generalize ([Men.enc ⟨0, 0, 100, 110, -1⟩, Men.enc ⟨1, -1, 105, 120, -1⟩, Men.enc ⟨2, 1, 100, 130, -1⟩, Men.enc ⟨3, -1, 130, 140, 0⟩] : List (List AV)) = M
  refine WOps.ent (Ent.el (l := [(0, I k), (2, .lbox 29 [I 0, .v (.slice none 0 0), .v (.slice none 0 0), I 0, .v (.slice none 0 0), .v (.slice none 0 0)]), (4, .agg bk.enc), (9, .sl 5 M)]) ⟨rfl, rfl, rfl, rfl, trivial⟩) ?_
  refine WOps.xd (gs := []) (hs := [.lin]) rfl ⟨rfl, ⟨rfl, rfl, rfl, by decide⟩, trivial⟩ ?_
  refine LWp.shareB (t := 3) rfl fun b3 => ?_
  refine LWp.ent (Ent.cellsSub (j := 0) (bk.enc ++ [I 2, .sl 5 M, .nil]) rfl ?_) ?_
  · exact ⟨SubA.refl _, SubA.refl _, SubA.refl _, SubA.refl _, SubA.refl _, fun S v h => by simpa only [Rep] using h, trivial⟩
  refine LWp.ent (Ent.trans (Ent.ofH (H' := [(b3, .cells 29 (bk.enc ++ [I 2, .sl 5 M, .nil]))]) rfl) (Ent.el (l := [(0, I k), (2, .lbox 29 [I 0, .v (.slice none 0 0), .v (.slice none 0 0), I 0, .v (.slice none 0 0), .v (.slice none 0 0)]), (3, .po b3 0)]) ⟨rfl, rfl, rfl, trivial⟩)) ?_
  have t1 := ltie_ev true
  have t2 := ltie_ev false
  rcases (by omega : k = 0 ∨ k = 1 ∨ k = 2) with rfl | rfl | rfl
  · refine LWp.seq (LWp.seq ?_)
    refine LWp.x (gs := []) (hs := []) rfl trivial ?_
    refine LWp.ite (b := false) rfl (fun h => by cases h) (fun _ => LWp.skip ?_)
    refine LWp.seq (LWp.seq ?_)
    refine LWp.x (gs := []) (hs := []) rfl trivial ?_
    refine LWp.ite (b := false) rfl (fun h => by cases h) (fun _ => LWp.skip ?_)
    refine LWp.ent (Ent.cellsSub (j := 0) (bk.enc ++ [I 2, .sl 5 M, tiesV []]) rfl ⟨SubA.refl _, SubA.refl _, SubA.refl _, SubA.refl _, SubA.refl _, SubA.nil 3, trivial⟩) ?_
    refine LWp.shx (gs := []) (hs := [.at 0]) rfl ⟨rfl, ⟨rfl, rfl, rfl, by decide⟩, trivial⟩ ?_
    refine LWp.ent (Ent.freezeLbox (t := 2) rfl) (LWp.ret ⟨.inr rfl, _, rfl, .one (.cellI (n := some 6) (cs := bk.enc ++ [I 2, .sl 5 M, tiesV []]) (upd_same _ _ _) (by kernel_rfl) rfl)⟩)
  · refine LWp.seq (LWp.seq ?_)
    refine LWp.x (gs := []) (hs := []) rfl trivial ?_
    refine LWp.ite (b := true) rfl (fun _ => ?_) (fun h => by cases h)
    refine LWp.d (gs := []) (hs := [.at 0, .ret (.agg (Tie.enc ⟨0, 1, true⟩)), .ice]) hmix rfl (by kernel_rfl) ⟨rfl, t1, rfl, ⟨(show 1 * 24 ≤ 140737488355328 by decide), (show 1 ≤ 9223372036854775807 by decide)⟩, trivial⟩ ?_
    refine WOps.ent (Ent.freezeLin (t := 17) rfl) ?_
    refine WOps.hd (gs := []) (hs := [.stO 0]) rfl ⟨⟨rfl, rfl, rfl, rfl, (show 6 ≤ 6 by omega)⟩, trivial⟩ ?_
    refine LWp.ent (Ent.ofH (H' := [(b3, .cells 29 (bk.enc ++ [I 2, .sl 5 M, tiesV (tiesX 1)]))]) rfl) ?_
    refine LWp.seq (LWp.seq ?_)
    refine LWp.x (gs := []) (hs := []) rfl trivial ?_
    refine LWp.ite (b := false) rfl (fun h => by cases h) (fun _ => LWp.skip ?_)
    refine LWp.shx (gs := []) (hs := [.at 0]) rfl ⟨rfl, ⟨rfl, rfl, rfl, by decide⟩, trivial⟩ ?_
    refine LWp.ent (Ent.freezeLbox (t := 2) rfl) (LWp.ret ⟨.inr rfl, _, rfl, .one (.cellI (n := some 6) (cs := bk.enc ++ [I 2, .sl 5 M, tiesV (tiesX 1)]) (upd_same _ _ _) (by kernel_rfl) rfl)⟩)
  · refine LWp.seq (LWp.seq ?_)
    refine LWp.x (gs := []) (hs := []) rfl trivial ?_
    refine LWp.ite (b := true) rfl (fun _ => ?_) (fun h => by cases h)
    refine LWp.d (gs := []) (hs := [.at 0, .ret (.agg (Tie.enc ⟨0, 1, true⟩)), .ice]) hmix rfl (by kernel_rfl) ⟨rfl, t1, rfl, ⟨(show 1 * 24 ≤ 140737488355328 by decide), (show 1 ≤ 9223372036854775807 by decide)⟩, trivial⟩ ?_
    refine WOps.share (t := 17) rfl (fun h => by cases h) (fun bA capA => ?_)
    refine WOps.hd (gs := []) (hs := [.stO 1]) rfl ⟨⟨rfl, rfl, rfl, rfl, (show 6 ≤ 6 by omega)⟩, trivial⟩ ?_
    refine LWp.ent (Ent.trans (Ent.ofH (H' := [(bA, .arr 63 3 capA [Tie.enc ⟨0, 1, true⟩]), (b3, .cells 29 (bk.enc ++ [I 2, .sl 5 M, .so bA 1 capA]))]) rfl) (Ent.el (l := [(0, I 2), (2, .lbox 29 [I 0, .v (.slice none 0 0), .v (.slice none 0 0), I 0, .v (.slice none 0 0), .v (.slice none 0 0)]), (3, .po b3 0)]) ⟨rfl, rfl, rfl, trivial⟩)) ?_
    refine LWp.seq (LWp.seq ?_)
    refine LWp.x (gs := []) (hs := []) rfl trivial ?_
    refine LWp.ite (b := true) rfl (fun _ => ?_) (fun h => by cases h)
    refine LWp.d (gs := []) (hs := [.at 1, .ret (.agg (Tie.enc ⟨0, 1, false⟩)), .ice]) hmix rfl (by kernel_rfl) ⟨rfl, t2, rfl, trivial⟩ ?_
    refine WOps.ent (Ent.unshare (i := 0) (t := 22) (es := [Tie.enc ⟨0, 1, true⟩]) rfl rfl) ?_
    refine WOps.xn (gs := []) (hs := []) 1 rfl rfl ⟨⟨(show 2 * 24 ≤ 140737488355328 by decide), (show 2 ≤ 9223372036854775807 by decide)⟩, trivial⟩ ?_
    refine WOps.ent (Ent.freezeLin (t := 25) rfl) ?_
    refine WOps.hd (gs := []) (hs := [.stO 0]) rfl ⟨⟨rfl, rfl, rfl, rfl, (show 6 ≤ 6 by omega)⟩, trivial⟩ ?_
    refine LWp.ent (Ent.ofH (H' := [(b3, .cells 29 (bk.enc ++ [I 2, .sl 5 M, tiesV (tiesX 2)]))]) rfl) ?_
    refine LWp.shx (gs := []) (hs := [.at 0]) rfl ⟨rfl, ⟨rfl, rfl, rfl, by decide⟩, trivial⟩ ?_
    refine LWp.ent (Ent.freezeLbox (t := 2) rfl) (LWp.ret ⟨.inr rfl, _, rfl, .one (.cellI (n := some 6) (cs := bk.enc ++ [I 2, .sl 5 M, tiesV (tiesX 2)]) (upd_same _ _ _) (by kernel_rfl) rfl)⟩)
end Go.Px

namespace Go.Px
open Go.Proofs Go.MapKept
structure Tru (t : Town) (but : Nat → Bool) (p : List Nat) : Prop where
  grp : Grp t.ms.length p
  kin : kinB t p = true
  yrs : emptyS (yearsW t p (cnt p)) = false
  tied : tiedF t but p = true
  named : ∀ w, w < cnt p → namedR t (ofL p w) = true
theorem op_eqSpan {d : Nat} {a b : Operand} {env : Env} {H : Heap} {x y : Sp} (ha : evO env a = .agg (sp2 x)) (hb : evO env b = .agg (sp2 y)) (wx : spB 1000000 x) (wy : spB 1000000 y) :
    ∀ (r : Option Nat) (N : Nat) (D : List Nat), Q1 Tryz.prog r N (.eqT false 43 a b) (some d) env H D [(d, B (decide (x = y)))] := by
  intro r N D
  exact Op1.eqT (m := 5) (DD := 5) (by decide) (by kernel_rfl) (by kernel_rfl) (by kernel_rfl) (by kernel_rfl) (u := sval x) (v := sval y) (by rw [ha]; rfl) (by rw [hb]; rfl) (wideSpan wx) (wideSpan wy) (decide (x = y)) (by rw [decide_eq_true_iff]; exact sval_eq.symm) ⟨rfl, rfl, rfl⟩
theorem townB_wf (l : List Tie) : (townB l).wf := by
  refine ⟨bookB_wf, (show (-9223372036854775808 : Int) ≤ 2 by decide), (show (2 : Int) ≤ 9223372036854775807 by decide), ?_⟩
  intro x hx
  simp only [townB, List.mem_cons, List.not_mem_nil, or_false] at hx
  rcases hx with rfl | rfl | rfl | rfl <;> exact ⟨by decide, by decide, by decide, by decide, by decide, by decide, by decide, by decide, by decide, by decide⟩
theorem town0_E : townE (townB (tiesX 0)) = 0 := by kernel_rfl
theorem town1_E : townE (townB (tiesX 1)) = 0 := by kernel_rfl
theorem town2_E : townE (townB (tiesX 2)) = 0 := by kernel_rfl
theorem town0_T : truthsL (townB (tiesX 0)) noBut = [[0, 0, 1, 1], [0, 0, 1, 2], [0, 1, 2, 2], [0, 1, 2, 3]] := by
  rw [← fair_truths ((townE_zero (townB_wf _)).1 town0_E).1]; kernel_rfl
theorem town1_T : truthsL (townB (tiesX 1)) noBut = [[0, 0, 1, 1], [0, 0, 1, 2]] := by
  rw [← fair_truths ((townE_zero (townB_wf _)).1 town1_E).1]; kernel_rfl
theorem town2_T : truthsL (townB (tiesX 2)) noBut = [] := by
  rw [← fair_truths ((townE_zero (townB_wf _)).1 town2_E).1]; kernel_rfl
theorem town2_G : setG (townB (tiesX 2)) [0] = true := by
  unfold setG
  rw [← fair_truths ((townE_zero (townB_wf _)).1 town2_E).1]; kernel_rfl
abbrev menX : Men := ⟨0, 1, 120, 120, -1⟩
theorem withX_OK : (withT (townB (tiesX 0)) menX).OK := by
  obtain ⟨h1, h2⟩ := (townE_zero (townB_wf _)).1 town0_E
  exact withT_OK h1 h2 (by kernel_rfl)
theorem withX_T : truthsL (withT (townB (tiesX 0)) menX) noBut = [[0, 0, 1, 1, 2], [0, 0, 1, 2, 1], [0, 0, 1, 2, 3], [0, 1, 2, 2, 1], [0, 1, 2, 2, 3], [0, 1, 2, 3, 1], [0, 1, 2, 3, 2], [0, 1, 2, 3, 4]] := by
  rw [← fair_truths withX_OK]; kernel_rfl
theorem whoX_E : entE (townB (tiesX 0)) (menE (townB (tiesX 0)) menX (townB (tiesX 0)).ms.length) = 0 := by kernel_rfl
theorem someX {t : Town} {e : Int} {p : List Nat} {l : List (List Nat)} (h : truthsL t noBut = p :: l) (he : e = 0) : someE t e = 0 := someE_zero.2 ⟨he, by rw [h]; simp⟩
theorem two0 : entE (townB (tiesX 0)) (twoE (townB (tiesX 0)) 0 1) = 0 ∧ entE (townB (tiesX 0)) (twoE (townB (tiesX 0)) 0 2) = 0 ∧ entE (townB (tiesX 0)) (twoE (townB (tiesX 0)) 0 3) = 0 ∧ entE (townB (tiesX 0)) (twoE (townB (tiesX 0)) 1 2) = 0 ∧ entE (townB (tiesX 1)) (twoE (townB (tiesX 1)) 0 1) = 0 ∧ entE (townB (tiesX 1)) (oneE (townB (tiesX 1)) 0) = 0 := by
  refine ⟨?_, ?_, ?_, ?_, ?_, ?_⟩ <;> kernel_rfl
theorem awake3_facts : firstT (townB (tiesX 0)) = ([0, 0, 1, 1], 4, 0) ∧ firstT (townB (tiesX 1)) = ([0, 0, 1, 1], 2, 0) ∧ firstT (townB (tiesX 2)) = ([], 0, 8) ∧
    sameT (townB (tiesX 0)) 0 1 = (0, 0) ∧ sameT (townB (tiesX 0)) 0 2 = (2, 0) ∧ sameT (townB (tiesX 1)) 0 1 = (1, 0) ∧ personsT (townB (tiesX 1)) = ((2, 3), 0) ∧ bornT (townB (tiesX 1)) 0 = ((105, 110), 0) ∧
    whyT (townB (tiesX 0)) 0 2 = (2, 0) ∧ whyT (townB (tiesX 0)) 0 3 = (3, 0) ∧ whyT (townB (tiesX 0)) 1 2 = (1, 0) ∧ wrongT (townB (tiesX 2)) = ([0], 0) ∧ whoT (townB (tiesX 0)) menX = ([1, 2], 0) := by
  obtain ⟨e1, e2, e3, e4, e5, e6⟩ := two0
  refine ⟨?_, ?_, ?_, ?_, ?_, ?_, ?_, ?_, ?_, ?_, ?_, ?_, ?_⟩
  · unfold firstT
    rw [if_pos (someX town0_T town0_E), town0_T]; rfl
  · unfold firstT
    rw [if_pos (someX town1_T town1_E), town1_T]; rfl
  · unfold firstT someE
    rw [town2_T, town2_E]; rfl
  · unfold sameT
    rw [if_pos (someX town0_T e1), town0_T]; rfl
  · unfold sameT
    rw [if_pos (someX town0_T e2), town0_T]; rfl
  · unfold sameT
    rw [if_pos (someX town1_T e5), town1_T]; rfl
  · unfold personsT
    rw [if_pos (someX town1_T town1_E), town1_T]; rfl
  · unfold bornT
    rw [if_pos (someX town1_T e6), town1_T]; kernel_rfl
  · unfold whyT
    rw [if_pos e2]; kernel_rfl
  · unfold whyT
    rw [if_pos e3]; kernel_rfl
  · unfold whyT
    rw [if_pos e4]; kernel_rfl
  · have h0 : setG (townB (tiesX 2)) [] = false := by
      unfold setG
      show (!(truthsL (townB (tiesX 2)) (butL [])).isEmpty) = false
      rw [butL_nil, town2_T]; rfl
    obtain ⟨p1, p2⟩ := wrong_plain (t := townB (tiesX 2)) (m := 1) (i := 0) (c := [0]) (by kernel_rfl) town2_G (by
      intro m' hm c hc
      have e : m' = 0 := by omega
      subst e
      have : c = [] := by simpa [chN] using hc
      rw [this]; exact h0) (by intro j c' hj; omega)
    unfold wrongT
    rw [if_pos town2_E, if_pos p1, p2]; rfl
  · unfold whoT
    rw [if_pos (someX town0_T whoX_E), withX_T]; kernel_rfl
end Go.Px

namespace Go.Px
open Go.Proofs Go.MapKept
set_option maxRecDepth 20000 in
theorem awake3_ev : Ev Tryz.prog 22 [] (B true) := by
  obtain ⟨f1, f2, f3, f4, f5, f6, f7, f8, f9, f10, f11, f12, f13⟩ := awake3_facts
  have e1 := pfirst_ev _ (townB_wf (tiesX 0))
  have e2 := pfirst_ev _ (townB_wf (tiesX 1))
  have e3 := pfirst_ev _ (townB_wf (tiesX 2))
  have e4 := psame_ev _ (townB_wf (tiesX 0)) 0 1
  have e5 := psame_ev _ (townB_wf (tiesX 0)) 0 2
  have e6 := psame_ev _ (townB_wf (tiesX 1)) 0 1
  have e7 := ppersons_ev _ (townB_wf (tiesX 1))
  have e8 := pborn_ev _ (townB_wf (tiesX 1)) 0
  have e9 := pwhy_ev _ (townB_wf (tiesX 0)) 0 2
  have e10 := pwhy_ev _ (townB_wf (tiesX 0)) 0 3
  have e11 := pwhy_ev _ (townB_wf (tiesX 0)) 1 2
  have e12 := pwrong_ev _ (townB_wf (tiesX 2))
  have e13 := pwho_ev _ (townB_wf (tiesX 0)) menX
  have w0 : Ev Tryz.prog 67 [I 0] (.agg (townB (tiesX 0)).enc) := town_ev 0 (by omega)
  have w1 : Ev Tryz.prog 67 [I 1] (.agg (townB (tiesX 1)).enc) := town_ev 1 (by omega)
  have w2 : Ev Tryz.prog 67 [I 2] (.agg (townB (tiesX 2)).enc) := town_ev 2 (by omega)
  have hm : Ev Tryz.prog 68 [I 0, I 1, I 120, I 120, I (-1)] (.agg [I 0, I 1, I 120, I 120, I (-1)]) := lmention_ev menX
  rw [f1] at e1
  rw [f2] at e2
  rw [f3] at e3
  rw [f4] at e4
  rw [f5] at e5
  rw [f6] at e6
  rw [f7] at e7
  rw [f8] at e8
  rw [f9] at e9
  rw [f10] at e10
  rw [f11] at e11
  rw [f12] at e12
  rw [f13] at e13
  generalize townB (tiesX 0) = T0 at e1 e4 e5 e9 e10 e11 e13 w0
  generalize townB (tiesX 1) = T1 at e2 e6 e7 e8 w1
  generalize townB (tiesX 2) = T2 at e3 e12 w2
  refine Ev.intro fn22 ?_
  refine LWp.sx (gs := []) (hs := []) rfl trivial ?_
  refine LWp.sx (gs := []) (hs := [.ret (.agg T0.enc), .ret (.agg T1.enc), .ret (.agg T2.enc), .lin, .lin, .lin]) rfl ⟨w0, w1, w2, rfl, rfl, rfl, ⟨rfl, rfl, rfl, by decide⟩, ⟨rfl, rfl, rfl, by decide⟩, ⟨rfl, rfl, rfl, by decide⟩, trivial⟩ ?_
  refine LWp.ent (Ent.trans (Ent.freezeLbox (t := 1) rfl) (Ent.trans (Ent.freezeLbox (t := 2) rfl) (Ent.freezeLbox (t := 3) rfl))) ?_
  refine LWp.ent (Ent.el (l := [(1, .pi T0.enc), (2, .pi T1.enc), (3, .pi T2.enc)]) ⟨rfl, rfl, rfl, trivial⟩) ?_
  refine LWp.sx (gs := []) (hs := [.ret (.tup [ints [0, 0, 1, 1], I 4, I 0])]) rfl ⟨e1, trivial⟩ ?_
  refine LWp.sx (gs := []) (hs := [.ret (.tup [ints [0, 0, 1, 1], I 2, I 0])]) rfl ⟨e2, trivial⟩ ?_
  refine LWp.sx (gs := []) (hs := [.ret (.tup [ints [], I 0, I 8])]) rfl ⟨e3, trivial⟩ ?_
  refine LWp.sx (gs := []) (hs := [.ret (.tup [I 0, I 0])]) rfl ⟨e4, trivial⟩ ?_
  refine LWp.sx (gs := []) (hs := [.ret (.tup [I 2, I 0])]) rfl ⟨e5, trivial⟩ ?_
  refine LWp.sx (gs := []) (hs := [.ret (.tup [I 1, I 0])]) rfl ⟨e6, trivial⟩ ?_
  refine LWp.sx (gs := []) (hs := [.ret (.tup [.agg [I 2, I 3], I 0]), .lin]) rfl ⟨e7, rfl, ⟨rfl, rfl, rfl, by decide⟩, trivial⟩ ?_
  refine LWp.ent (Ent.freezeLbox (t := 19) rfl) ?_
  refine LWp.sx (gs := []) (hs := [.ret (.tup [.agg [I 105, I 110], I 0]), .lin]) rfl ⟨e8, rfl, ⟨rfl, rfl, rfl, by decide⟩, trivial⟩ ?_
  refine LWp.ent (Ent.freezeLbox (t := 21) rfl) ?_
  refine LWp.sx (gs := []) (hs := [.ret (.tup [I 2, I 0])]) rfl ⟨e9, trivial⟩ ?_
  refine LWp.sx (gs := []) (hs := [.ret (.tup [I 3, I 0])]) rfl ⟨e10, trivial⟩ ?_
  refine LWp.sx (gs := []) (hs := [.ret (.tup [I 1, I 0])]) rfl ⟨e11, trivial⟩ ?_
  refine LWp.sx (gs := []) (hs := [.ret (.tup [ints [0], I 0])]) rfl ⟨e12, trivial⟩ ?_
  refine LWp.sd (gs := []) (hs := [.ret (.agg [I 0, I 1, I 120, I 120, I (-1)]), .ret (.tup [ints [1, 2], I 0])]) hmix rfl (by kernel_rfl) ⟨hm, e13, trivial⟩ ?_
  have i1 := ints_ev [0, 0, 1, 1] [0, 0, 1, 1]
  have i2 := ints_ev [0] [0]
  have i3 := ints_ev [1, 2] [1, 2]
  have s1 := lspan_ev 2 3
  have s2 := lspan_ev 105 110
  have wide1 : spB 1000000 (2, 3) := ⟨by decide, by decide, by decide, by decide⟩
  have wide2 : spB 1000000 (105, 110) := ⟨by decide, by decide, by decide, by decide⟩
  refine LWp.ent (Ent.el (l := [(4, ints [0, 0, 1, 1]), (5, I 4), (6, I 0), (8, I 2), (9, I 0), (12, I 8), (13, I 0), (14, I 0), (15, I 2), (16, I 0), (17, I 1), (18, I 0), (19, .pi [I 2, I 3]), (20, I 0), (21, .pi [I 105, I 110]), (22, I 0), (23, I 2), (24, I 0), (25, I 3), (26, I 0), (27, I 1), (28, I 0), (29, ints [0]), (30, I 0), (31, ints [1, 2]), (32, I 0)]) ⟨rfl, rfl, rfl, rfl, rfl, rfl, rfl, rfl, rfl, rfl, rfl, rfl, rfl, rfl, rfl, rfl, rfl, rfl, rfl, rfl, rfl, rfl, rfl, rfl, rfl, rfl, trivial⟩) ?_
  refine LWp.sd (gs := [(107, true), (111, true), (115, true), (119, true), (123, true), (127, true), (131, true), (135, true), (139, true), (143, true), (147, true), (151, true), (155, true), (160, true), (164, true), (168, true), (172, true), (176, true), (180, true), (185, true), (190, true), (194, true), (198, true), (202, true), (207, true)]) (hs := [.ice, .ret (B true), .ret (.agg [I 2, I 3]), .op (B true), .ret (.agg [I 105, I 110]), .op (B true), .ice, .ret (B true), .ice, .ret (B true)]) hmix rfl (by kernel_rfl) (by (repeat' (with_reducible apply And.intro)); (all_goals first | (with_reducible exact trivial) | (with_reducible rfl) | (with_reducible assumption) | ((with_reducible apply isB); first | exact rfl | exact beq_self_eq_true _) | omega | ((first | exact i1 | exact i2 | exact i3 | exact s1 | exact s2 | exact op_eqSpan (x := (2, 3)) (y := (2, 3)) rfl rfl wide1 wide1 | exact op_eqSpan (x := (105, 110)) (y := (105, 110)) rfl rfl wide2 wide2 | rfl)))) ?_
  refine LWp.ret (retT (.inr rfl) (.one (.tmp ?_ rfl)))
  rfl
end Go.Px

