/- Part 3 of the proof of the statement LetterOfs (contracts of the functions that it alone wants). No conditions. -/
import Derived.Test.YtbplgdbdpdhipaaBOfs2
namespace Go.Px
open Go.Proofs
theorem rall_ev (f : Form) (hv : FormV f) (l : List Wd) : Ev Try.prog 74 [.agg f.enc, strs l] (allV (allF f.parts l)) := by
  have hp5 := hv.p5
  have hro := rooms_ok hv.parts
  have hrl := roomsL_len f.parts
  have hC := cnts_size (rs := roomsL f.parts) (fun r hr => ⟨(hro r hr).1, (hro r hr).2.2.2⟩)
  have hC2 : 4 ^ (roomsL f.parts).length ≤ 4 ^ 5 := Nat.pow_le_pow_right (by omega) (by omega)
  have hrm := rrooms_ev f (by omega)
  have hcn := rcounts_ev (roomsL f.parts) hro (by omega)
  have hsm := fun (ms : List Nat) (h : ms ∈ cnts (roomsL f.parts)) => shape_small hv h
  have hA : allF f.parts l = ((cnts (roomsL f.parts)).filter fun m => fitL (shapeF f.parts m) l).map fun m => filledF f.parts m l := rfl
  rw [hA]
  refine Ev.intro fn74 ?_
  refine LWp.slLen 1 rfl fun hll => ?_
  simp only [List.length_map] at hll
  refine LWp.sx (gs := []) (hs := [.ice]) rfl ⟨⟨rfl, rfl⟩, trivial⟩ ?_
  refine LWp.sx (gs := []) (hs := [.ret (roomsV (roomsL f.parts)), .ret (cntsV (cnts (roomsL f.parts)))]) rfl ⟨hrm, hcn, trivial⟩ ?_
  generalize cnts (roomsL f.parts) = C at hC hsm
  refine LWp.sx (gs := []) (hs := []) rfl trivial ?_
  refine LWp.seq (LWp.seq ?_)
  refine LWp.x (gs := []) (hs := []) rfl trivial ?_
  refine LWp.blockT (fun _ : Unit => True) (fun _ => el [(6, .lin 25 1 (((C.filter fun m => fitL (shapeF f.parts m) l).map fun m => filledF f.parts m l).map fun fs => [fillsV fs]))]) (fun _ => []) (fun _ => []) ?_ ?_
  · refine LWp.loopN (fun k : Nat => k ≤ C.length) (fun k => el [(1, strs l), (2, .pi f.enc), (5, cntsV C), (6, .lin 25 1 ((((C.take k).filter fun m => fitL (shapeF f.parts m) l).map fun m => filledF f.parts m l).map fun fs => [fillsV fs])), (7, I k)]) (fun _ => []) (fun _ => []) (fun k => C.length - k) 0 (by omega)
      (Ent.trans (Ent.nilLin (t := 6) 25 1 rfl) (Ent.el ⟨rfl, rfl, rfl, rfl, rfl, trivial⟩)) ?_
    intro k hk
    refine LWp.seq (LWp.seq ?_)
    refine LWp.x (gs := []) (hs := []) rfl trivial ?_
    refine LWp.ite rfl (fun he => ?_) (fun he => ?_)
    · simp only [List.length_map, decide_eq_true_eq, Int.ofNat_lt] at he
      obtain ⟨ms, hx⟩ := ex_get he
      obtain ⟨m1, m2, m3⟩ := hsm ms (List.mem_of_getElem? hx)
      have hsh := rshape_ev f ms (fun m hm => by have := m2 m hm; omega) m1 (by omega) (by omega)
      have hst : ((C.take (k + 1)).filter fun m => fitL (shapeF f.parts m) l).map (fun m => filledF f.parts m l) = if fitL (shapeF f.parts ms) l = true then ((C.take k).filter fun m => fitL (shapeF f.parts m) l).map (fun m => filledF f.parts m l) ++ [filledF f.parts ms l] else ((C.take k).filter fun m => fitL (shapeF f.parts m) l).map (fun m => filledF f.parts m l) := by
        rw [List.take_add_one, hx, List.filter_append, List.map_append]
        by_cases g : fitL (shapeF f.parts ms) l = true
        · simp [g]
        · simp [g]
      have hal : (((C.take k).filter fun m => fitL (shapeF f.parts m) l).map (fun m => filledF f.parts m l)).length ≤ 1024 := by
        rw [List.length_map]
        have h1 := List.length_filter_le (fun m => fitL (shapeF f.parts m) l) (C.take k)
        rw [List.length_take] at h1
        omega
      have hfi := rfilled_ev f ms l m1 (by omega)
      generalize ((C.take k).filter fun m => fitL (shapeF f.parts m) l).map (fun m => filledF f.parts m l) = A at hst hal
      refine LWp.skip ?_
      refine LWp.blockX (fun _ : Unit => True) (fun _ => el [(1, strs l), (2, .pi f.enc), (5, cntsV C), (6, .lin 25 1 (((((C.take (k + 1)).filter fun m => fitL (shapeF f.parts m) l)).map fun m => filledF f.parts m l).map fun fs => [fillsV fs])), (7, I k)]) (fun _ => []) (fun _ => []) ?_ ?_
      · rw [hst]
        generalize shapeF f.parts ms = S at hsh m3 hfi
        have hSl : (S.map fun s => [Str s]).length = S.length := List.length_map _
        have hll2 : (l.map fun s => [Str s]).length = l.length := List.length_map _
        refine LWp.sd (gs := []) (hs := [.cells [natsV ms], .ret (strs S)]) hmix rfl (by kernel_rfl) ⟨⟨by omega, by simp [hx]⟩, hsh, trivial⟩ ?_
        refine LWp.sx (gs := []) (hs := []) rfl trivial ?_
        refine LWp.ent (Ent.el (l := [(1, strs l), (2, .pi f.enc), (5, cntsV C), (6, .lin 25 1 (A.map fun fs => [fillsV fs])), (7, I k), (8, strs S), (9, B (decide (S.length = l.length)))]) ⟨rfl, rfl, rfl, rfl, rfl, rfl, by show B _ = B _; rw [hSl, hll2]; congr 1; rw [Bool.eq_iff_iff]; simp; omega, trivial⟩) ?_
        refine LWp.seq (LWp.seq ?_)
        refine LWp.x (gs := []) (hs := []) rfl trivial ?_
        refine LWp.blockT (fun _ : Unit => True) (fun _ => el [(1, strs l), (2, .pi f.enc), (5, cntsV C), (6, .lin 25 1 (A.map fun fs => [fillsV fs])), (7, I k), (9, B (fitL S l))]) (fun _ => []) (fun _ => []) ?_ ?_
        · refine LWp.loopN (fun x : Nat × Bool => x.1 ≤ l.length ∧ (x.2 = true → S.length = l.length) ∧ fitL S l = (x.2 && fitL (S.drop x.1) (l.drop x.1))) (fun x => el [(1, strs l), (2, .pi f.enc), (5, cntsV C), (6, .lin 25 1 (A.map fun fs => [fillsV fs])), (7, I k), (8, strs S), (9, B x.2), (10, I x.1)]) (fun _ => []) (fun _ => []) (fun x => l.length - x.1) (0, decide (S.length = l.length)) ⟨by omega, by simp, ?_⟩
            (Ent.el ⟨rfl, rfl, rfl, rfl, rfl, rfl, rfl, rfl, trivial⟩) ?_
          · by_cases g : S.length = l.length
            · simp [g]
            · have : ¬ fitL S l = true := fun h => g (fitL_len h)
              simp [g, this]
          rintro ⟨j, b⟩ ⟨hj, hjb, hji⟩
          simp only at hj hjb hji
          refine LWp.ent (Ent.el (l := [(1, strs l), (2, .pi f.enc), (5, cntsV C), (6, .lin 25 1 (A.map fun fs => [fillsV fs])), (7, I k), (8, strs S), (9, B b), (10, I j)]) ⟨rfl, rfl, rfl, rfl, rfl, rfl, rfl, rfl, trivial⟩) ?_
          refine LWp.seq (LWp.seq ?_)
          by_cases hjl : j < l.length
          · have g1 : decide ((j : Int) < ((l.map fun s => [Str s]).length : Int)) = true := decide_eq_true (by rw [hll2]; omega)
            refine LWp.x (gs := [(35, true)]) (hs := []) rfl (by (repeat' (with_reducible apply And.intro)); (all_goals try first | (with_reducible exact trivial) | (with_reducible rfl) | (with_reducible assumption) | ((with_reducible apply isB); first | exact rfl | exact beq_self_eq_true _))) ?_
            refine LWp.ite rfl (fun hb => ?_) (fun hb => ?_)
            · have hb : b = true := by simpa using hb
              subst hb
              have hSL := hjb rfl
              obtain ⟨w, hw⟩ := ex_get hjl
              obtain ⟨s, hs⟩ := ex_get (l := S) (k := j) (by omega)
              rw [drop_cons hs, drop_cons hw, fitL, Bool.true_and] at hji
              have hfb := rfits_ev s w
              generalize fitB s w = b at hji hfb
              refine LWp.skip (LWp.seq (LWp.block ?_))
              refine LWp.dd (gs := []) (hs := [.cells [Str s], .cells [Str w], .ret (B b)]) hmix rfl (by kernel_rfl) ⟨⟨by omega, by simp [hs]⟩, ⟨by omega, by simp [hw]⟩, hfb, trivial⟩ ?_
              refine LWp.x (gs := []) (hs := []) rfl ⟨by omega, trivial⟩ ?_
              exact ⟨(j + 1, b), ⟨by simp only; omega, fun _ => hSL, hji⟩, by simp only; omega, Ent.el ⟨rfl, rfl, rfl, rfl, rfl, rfl, rfl, rfl, trivial⟩⟩
            · have hb : b = false := by simpa using hb
              subst hb
              exact LWp.exit ⟨(), trivial, Ent.el ⟨rfl, rfl, rfl, rfl, rfl, by rw [hji]; rfl, trivial⟩⟩
          · have g1 : decide ((j : Int) < ((l.map fun s => [Str s]).length : Int)) = false := decide_eq_false (by rw [hll2]; omega)
            refine LWp.x (gs := [(35, false)]) (hs := []) rfl (by (repeat' (with_reducible apply And.intro)); (all_goals try first | (with_reducible exact trivial) | (with_reducible rfl) | (with_reducible assumption) | ((with_reducible apply isB); first | exact rfl | exact beq_self_eq_true _))) ?_
            refine LWp.ite (b := false) rfl (fun h => by cases h) (fun _ => ?_)
            refine LWp.exit ⟨(), trivial, Ent.el ⟨rfl, rfl, rfl, rfl, rfl, ?_, trivial⟩⟩
            rw [hji]
            cases b with
            | false => rfl
            | true =>
              have hSL := hjb rfl
              have d1 : S.drop j = [] := List.drop_eq_nil_of_le (by omega)
              have d2 : l.drop j = [] := List.drop_eq_nil_of_le (by omega)
              rw [d1, d2]; rfl
        intro _ _
        have hfl := @fitL_len S l
        generalize fitL S l = b at hst hfl
        refine LWp.sx (gs := []) (hs := []) rfl trivial ?_
        refine LWp.ite rfl (fun hb => ?_) (fun hb => ?_)
        · have hb : b = true := by simpa using hb
          subst hb
          have hlen := hfl rfl
          have hfi := hfi hlen (by omega)
          refine LWp.dd (gs := []) (hs := [.cells [natsV ms], .ret (fillsV (filledF f.parts ms l)), .ice]) hmix rfl (by kernel_rfl) ⟨⟨by omega, by simp [hx]⟩, hfi, rfl, ⟨by simp [chunk]; omega, by simp [chunk]; omega⟩, trivial⟩ ?_
          refine ⟨(), trivial, Ent.el ⟨rfl, rfl, rfl, by show AV.lin _ _ _ = _; rw [if_pos rfl, List.map_append]; rfl, rfl, trivial⟩⟩
        · have hb : b = false := by simpa using hb
          subst hb
          exact LWp.skip ⟨(), trivial, Ent.el ⟨rfl, rfl, rfl, by rw [if_neg (by simp)]; rfl, rfl, trivial⟩⟩
      intro _ _
      refine LWp.x (gs := []) (hs := []) rfl ⟨by omega, trivial⟩ ?_
      exact ⟨k + 1, by omega, by omega, Ent.el ⟨rfl, rfl, rfl, rfl, rfl, trivial⟩⟩
    · simp only [List.length_map, decide_eq_false_iff_not, Int.ofNat_lt] at he
      refine LWp.exit ⟨(), trivial, ?_⟩
      rw [List.take_of_length_le (by omega)]
      exact Ent.el ⟨rfl, trivial⟩
  intro _ _
  refine LWp.ent (Ent.freezeLin (t := 6) rfl) ?_
  refine LWp.sx (gs := []) (hs := []) rfl trivial ?_
  refine LWp.ret (retT (.inr rfl) (.one (.tmp ?_ rfl)))
  rfl
end Go.Px

namespace Go.Px
open Go.Proofs
theorem rof_ev (s : Shelf) (hw : s.wf) (l : List Wd) : Ev Try.prog 23 [.agg s.enc, strs l] (.tup [ints (ofR s l).1, I (ofR s l).2]) := by
  have hfl : (s.forms.map Form.enc).length = s.forms.length := List.length_map _
  have hck := rcheck_ev s hw
  have hth := rthen_ev l (checkS s).2.2
  refine Ev.intro fn23 ?_
  have hV : thenE (checkS s).2.2 l = 0 → ShelfV s := by
    intro h
    by_cases h0 : (checkS s).2.2 = 0
    · exact shelf_iff.1 h0
    · rw [thenE, if_neg h0] at h; exact absurd h h0
  have hR : ofR s l = if thenE (checkS s).2.2 l = 0 then (ofL s.forms l, 0) else ([], thenE (checkS s).2.2 l) := rfl
  rw [hR]
  generalize thenE (checkS s).2.2 l = e at hV hth
  generalize (checkS s).1 = c1 at hck
  generalize (checkS s).2.1 = c2 at hck
  generalize (checkS s).2.2 = c3 at hck hth
  refine LWp.sx (gs := []) (hs := [.ice]) rfl ⟨⟨rfl, rfl⟩, trivial⟩ ?_
  refine LWp.sx (gs := []) (hs := [.ret (.tup [I c1, I c2, I c3])]) rfl ⟨hck, trivial⟩ ?_
  refine LWp.sx (gs := []) (hs := [.ret (I e)]) rfl ⟨hth, trivial⟩ ?_
  refine LWp.seq (LWp.seq ?_)
  refine LWp.x (gs := []) (hs := []) rfl trivial ?_
  refine LWp.ite rfl (fun h => ?_) (fun h => ?_)
  · have h : e ≠ 0 := by simpa using h
    refine LWp.sx (gs := []) (hs := []) rfl trivial ?_
    refine LWp.ent (Ent.nilSl (t := 4) 1 rfl) ?_
    refine LWp.ret ?_
    rw [if_neg h]
    exact retT (.inr rfl) (.many (by decide) ⟨.tmp rfl rfl, .tmp rfl rfl, trivial⟩)
  have h : e = 0 := by simpa using h
  rw [if_pos h]
  have V := hV h
  have h4 := V.f4
  refine LWp.skip ?_
  refine LWp.sx (gs := []) (hs := []) rfl trivial ?_
  refine LWp.seq (LWp.seq ?_)
  refine LWp.x (gs := []) (hs := []) rfl trivial ?_
  have hO : ∀ k, ∃ O, O = ((List.range k).filter fun i => decide (waysF ((s.forms[i]?).elim [] (·.parts)) l ≠ [])).map fun (i : Nat) => (i : Int) := fun k => ⟨_, rfl⟩
  refine LWp.blockT (fun _ : Unit => True) (fun _ => el [(9, .lin 3 1 ((ofL s.forms l).map fun x => [I x]))]) (fun _ => []) (fun _ => []) ?_ ?_
  · refine LWp.loopN (fun k : Nat => k ≤ s.forms.length) (fun k => el [(1, strs l), (2, .pi s.enc), (9, .lin 3 1 ((((List.range k).filter fun i => decide (waysF ((s.forms[i]?).elim [] (·.parts)) l ≠ [])).map fun (i : Nat) => (i : Int)).map fun x => [I x])), (10, I k)]) (fun _ => []) (fun _ => []) (fun k => s.forms.length - k) 0 (by omega)
      (Ent.trans (Ent.nilLin (t := 9) 3 1 rfl) (Ent.el ⟨rfl, rfl, rfl, rfl, trivial⟩)) ?_
    intro k hk
    refine LWp.seq (LWp.seq ?_)
    refine LWp.x (gs := []) (hs := []) rfl trivial ?_
    refine LWp.ite rfl (fun he => ?_) (fun he => ?_)
    · simp only [List.length_map, decide_eq_true_eq, Int.ofNat_lt] at he
      obtain ⟨f, hf⟩ := ex_get he
      have hv := (V.forms f (List.mem_of_getElem? hf)).2
      have hal := rall_ev f hv l
      have hne : decide ((((allF f.parts l).map fun fs => [fillsV fs]).length : Int) > 0) = decide (waysF f.parts l ≠ []) := by
        rw [List.length_map, allF, List.length_map, Bool.eq_iff_iff, decide_eq_true_iff, decide_eq_true_iff, ← List.length_pos_iff]
        omega
      have hst : ((List.range (k + 1)).filter fun i => decide (waysF ((s.forms[i]?).elim [] (·.parts)) l ≠ [])).map (fun (i : Nat) => (i : Int)) = if waysF f.parts l ≠ [] then ((List.range k).filter fun i => decide (waysF ((s.forms[i]?).elim [] (·.parts)) l ≠ [])).map (fun (i : Nat) => (i : Int)) ++ [(k : Int)] else ((List.range k).filter fun i => decide (waysF ((s.forms[i]?).elim [] (·.parts)) l ≠ [])).map (fun (i : Nat) => (i : Int)) := by
        rw [List.range_succ, List.filter_append, List.map_append]
        by_cases g : waysF f.parts l = []
        · simp [hf, g]
        · simp [hf, g]
      have hle : (((List.range k).filter fun i => decide (waysF ((s.forms[i]?).elim [] (·.parts)) l ≠ [])).map (fun (i : Nat) => (i : Int))).length ≤ 4 := by
        rw [List.length_map]
        have := List.length_filter_le (fun i => decide (waysF ((s.forms[i]?).elim [] (·.parts)) l ≠ [])) (List.range k)
        rw [List.length_range] at this
        omega
      refine LWp.skip ?_
      refine LWp.blockX (fun _ : Unit => True) (fun _ => el [(1, strs l), (2, .pi s.enc), (9, .lin 3 1 ((((List.range (k + 1)).filter fun i => decide (waysF ((s.forms[i]?).elim [] (·.parts)) l ≠ [])).map fun (i : Nat) => (i : Int)).map fun x => [I x])), (10, I k)]) (fun _ => []) (fun _ => []) ?_ ?_
      · rw [hst]
        generalize ((List.range k).filter fun i => decide (waysF ((s.forms[i]?).elim [] (·.parts)) l ≠ [])).map (fun (i : Nat) => (i : Int)) = A at hle
        refine LWp.sx (gs := []) (hs := [.cells f.enc, .ret (allV (allF f.parts l))]) rfl ⟨⟨by omega, by simp [hf]⟩, hal, trivial⟩ ?_
        refine LWp.ite rfl (fun hb => ?_) (fun hb => ?_)
        · rw [hne, decide_eq_true_iff] at hb
          rw [if_pos hb]
          refine LWp.x (gs := []) (hs := [.ice]) rfl ⟨rfl, ⟨by simp [chunk]; omega, by simp [chunk]; omega⟩, trivial⟩ ?_
          exact ⟨(), trivial, Ent.el ⟨rfl, rfl, by show AV.lin _ _ _ = _; rw [List.map_append]; rfl, rfl, trivial⟩⟩
        · rw [hne, decide_eq_false_iff_not] at hb
          rw [if_neg hb]
          exact LWp.skip ⟨(), trivial, Ent.el ⟨rfl, rfl, rfl, rfl, trivial⟩⟩
      intro _ _
      refine LWp.x (gs := []) (hs := []) rfl ⟨by omega, trivial⟩ ?_
      exact ⟨k + 1, by omega, by omega, Ent.el ⟨rfl, rfl, rfl, rfl, trivial⟩⟩
    · simp only [List.length_map, decide_eq_false_iff_not, Int.ofNat_lt] at he
      refine LWp.exit ⟨(), trivial, Ent.el ⟨?_, trivial⟩⟩
      rw [show k = s.forms.length by omega]; rfl
  intro _ _
  refine LWp.ent (Ent.freezeLin (t := 9) rfl) ?_
  refine LWp.sx (gs := []) (hs := []) rfl trivial ?_
  exact LWp.ret (retT (.inr rfl) (.many (by decide) ⟨.tmp rfl rfl, .tmp rfl rfl, trivial⟩))
theorem rfills_ev (s : Shelf) (hw : s.wf) (n : Int) (l : List Wd) : Ev Try.prog 26 [.agg s.enc, I n, strs l] (.tup [fillsV (fillsR s n l).1, I (fillsR s n l).2.1, I (fillsR s n l).2.2]) := by
  have hfl : (s.forms.map Form.enc).length = s.forms.length := List.length_map _
  have hfo := rform_ev s hw n
  have hth := rthen_ev l (formI s n)
  have res : ∀ {env : Env} {H : Heap} {x : List (List Wd)} {q r : Int}, fillsR s n l = (x, q, r) → env 6 = fillsV x → env 7 = I q → env 8 = I r → retP Try.prog [.tmp 6, .tmp 7, .tmp 8] (.tup [fillsV (fillsR s n l).1, I (fillsR s n l).2.1, I (fillsR s n l).2.2]) .ret env H [] := by
    intro env H p q r h h2 h3 h4
    rw [h]
    exact retT (.inr rfl) (.many (by decide) ⟨.tmp h2 rfl, .tmp h3 rfl, .tmp h4 rfl, trivial⟩)
  refine Ev.intro fn26 ?_
  refine LWp.sx (gs := []) (hs := [.ice]) rfl ⟨⟨rfl, rfl⟩, trivial⟩ ?_
  refine LWp.sx (gs := []) (hs := [.ret (I (formI s n)), .ret (I (thenE (formI s n) l))]) rfl ⟨hfo, hth, trivial⟩ ?_
  refine LWp.seq (LWp.seq ?_)
  refine LWp.x (gs := []) (hs := []) rfl trivial ?_
  refine LWp.ite rfl (fun h => ?_) (fun h => ?_)
  · have h : thenE (formI s n) l ≠ 0 := by simpa using h
    refine LWp.sx (gs := []) (hs := []) rfl trivial ?_
    refine LWp.ent (Ent.nilSl (t := 6) 1 rfl) ?_
    exact LWp.ret (res (x := []) (q := 0) (by rw [fillsR, if_neg h]) rfl rfl rfl)
  have h : thenE (formI s n) l = 0 := by simpa using h
  have h0 : formI s n = 0 := by
    by_cases g : formI s n = 0
    · exact g
    · rw [thenE, if_neg g] at h; exact absurd h g
  obtain ⟨_, V, n0, n1, n2, f, hf, hv, hpo⟩ := formI_iff h0
  have hal := rall_ev f hv l
  have hFi : fillsR s n l = match waysF f.parts l with
    | [] => ([], 0, 9)
    | m :: ms => (filledF f.parts m l, ((m :: ms).length : Nat), 0) := by
    rw [fillsR, if_pos h, hpo]
    cases waysF f.parts l <;> rfl
  refine LWp.skip ?_
  refine LWp.sx (gs := []) (hs := [.cells f.enc, .ret (allV (allF f.parts l))]) rfl ⟨⟨by omega, by simp [hf]⟩, hal, trivial⟩ ?_
  have hAl : allF f.parts l = (waysF f.parts l).map fun m => filledF f.parts m l := rfl
  generalize allF f.parts l = A at hAl
  refine LWp.seq (LWp.seq ?_)
  refine LWp.x (gs := []) (hs := []) rfl trivial ?_
  cases hW : waysF f.parts l with
  | nil =>
    rw [hW] at hAl hFi
    subst hAl
    refine LWp.ite (b := true) rfl (fun _ => ?_) (fun h => by cases h)
    refine LWp.sx (gs := []) (hs := []) rfl trivial ?_
    refine LWp.ent (Ent.nilSl (t := 6) 1 rfl) ?_
    exact LWp.ret (res (x := []) (q := 0) (r := 9) hFi rfl rfl rfl)
  | cons m ms =>
    rw [hW] at hAl hFi
    subst hAl
    refine LWp.ite rfl (fun h => ?_) (fun _ => ?_)
    · simp at h; omega
    refine LWp.skip ?_
    refine LWp.sx (gs := []) (hs := [.cells [fillsV (filledF f.parts m l)]]) rfl ⟨⟨by decide, rfl⟩, trivial⟩ ?_
    exact LWp.ret (res (x := filledF f.parts m l) (q := ((m :: ms).length : Nat)) (r := 0) hFi rfl (by show I _ = I _; simp) rfl)
end Go.Px

namespace Go.Px
open Go.Proofs
theorem letterOfs_ev (s : Shelf) (hw : s.wf) (n : Int) (l : List Wd) : Ev Try.prog 4 [.agg s.enc, I n, strs l] (B true) := by
  have e1 := of_ev s hw l
  have e2 := rof_ev s hw l
  have e3 := fills_ev s hw n l
  have e4 := rfills_ev s hw n l
  generalize (ofR s l).1 = p at e1 e2
  generalize (ofR s l).2 = q at e1 e2
  generalize (fillsR s n l).1 = x at e3 e4
  generalize (fillsR s n l).2.1 = y at e3 e4
  generalize (fillsR s n l).2.2 = z at e3 e4
  refine Ev.intro fn4 ?_
  refine LWp.sx (gs := []) (hs := [.ice]) rfl ⟨⟨rfl, rfl⟩, trivial⟩ ?_
  refine LWp.sx (gs := []) (hs := [.ret (.tup [ints p, I q])]) rfl ⟨e1, trivial⟩ ?_
  refine LWp.sx (gs := []) (hs := [.ret (.tup [ints p, I q])]) rfl ⟨e2, trivial⟩ ?_
  refine LWp.seq (LWp.seq ?_)
  refine LWp.x (gs := [(31, false)]) (hs := [.ret (B true)]) rfl (by (repeat' (with_reducible apply And.intro)); (all_goals try first | (with_reducible exact trivial) | (with_reducible rfl) | (with_reducible assumption) | ((with_reducible apply isB); first | exact rfl | exact beq_self_eq_true _)); exact ints_refl _) ?_
  refine LWp.ite rfl (fun h => ?_) (fun _ => LWp.skip ?_)
  · simp at h
  refine LWp.sx (gs := []) (hs := [.ret (.tup [fillsV x, I y, I z])]) rfl ⟨e3, trivial⟩ ?_
  refine LWp.sx (gs := []) (hs := [.ret (.tup [fillsV x, I y, I z])]) rfl ⟨e4, trivial⟩ ?_
  refine LWp.sx (gs := [(55, true), (60, true), (65, true)]) (hs := [.ret (B true), .ret (B true)]) rfl (by (repeat' (with_reducible apply And.intro)); (all_goals try first | (with_reducible exact trivial) | (with_reducible rfl) | (with_reducible assumption) | ((with_reducible apply isB); first | exact rfl | exact beq_self_eq_true _)); exact sames_refl _; exact awake_ev) ?_
  refine LWp.ret (retT (.inr rfl) (.one (.tmp ?_ rfl)))
  rfl
end Go.Px

