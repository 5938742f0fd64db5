/- Part 3 of the proof of the statement LetterMends (contracts of the functions that it alone wants). No conditions. -/
import Derived.Test.YtbplgdbdpdhipaaBMends2
namespace Go.Px
open Go.Proofs
theorem rleast_ev (F S : List Wd) (hF : F.length ≤ 1000) (hS : S.length ≤ 1000) : Ev Try.prog 122 [strs F, strs S] (tblV (tbl F S)) := by
  have hFl : (F.map fun s => [Str s]).length = F.length := List.length_map _
  have hSl : (S.map fun s => [Str s]).length = S.length := List.length_map _
  refine Ev.intro fn122 ?_
  refine LWp.sx (gs := []) (hs := []) rfl trivial ?_
  refine LWp.seq (LWp.ops ?_)
  refine WOps.xn (gs := []) (hs := []) 3 rfl rfl (by exact ⟨⟨by rw [hFl]; omega, by rw [hFl]; omega⟩, trivial⟩) ?_
  refine WOps.cons (Op1.mslice (F.length + 1) rfl rfl (by show ((F.map fun s => [Str s]).length : Int) + 1 = _; rw [hFl]; omega) (by show ((F.map fun s => [Str s]).length : Int) + 1 = _; rw [hFl]; omega) (by omega) (by omega) rfl (fun gr => ?_))
  refine WOps.xd (gs := []) (hs := []) rfl trivial ?_
  refine LWp.ent (Ent.trans (Ent.ofH (H' := [(gr, .arr 35 1 (F.length + 1) (rowsE F S (F.length + 1)))]) (by rw [rowsE_start]; rfl)) (Ent.el (l := [(0, strs F), (1, strs S), (5, .so gr (F.length + 1) (F.length + 1))]) ⟨rfl, rfl, by show AV.so _ _ _ = _; rw [List.length_replicate], trivial⟩)) ?_
  refine LWp.seq (LWp.seq ?_)
  refine LWp.x (gs := []) (hs := []) rfl trivial ?_
  refine LWp.blockT (fun _ : Unit => True) (fun _ => el [(5, .so gr (F.length + 1) (F.length + 1))]) (fun _ => [(gr, .arr 35 1 (F.length + 1) (rowsE F S 0))]) (fun _ => []) ?_ ?_
  · refine LWp.loopN (fun n : Nat => n ≤ F.length + 1) (fun n => el [(0, strs F), (1, strs S), (5, .so gr (F.length + 1) (F.length + 1)), (6, I ((n : Int) - 1))]) (fun n => [(gr, .arr 35 1 (F.length + 1) (rowsE F S n))]) (fun _ => []) (fun n => n) (F.length + 1) (Nat.le_refl _)
      (Ent.el ⟨rfl, rfl, rfl, by show I _ = I _; rw [hFl]; exact congrArg (fun z : Int => I z) (by omega), trivial⟩) ?_
    intro n hn
    refine LWp.seq (LWp.seq ?_)
    refine LWp.x (gs := []) (hs := []) rfl trivial ?_
    cases n with
    | zero =>
      refine LWp.ite (b := false) rfl (fun h => by cases h) (fun _ => LWp.exit ⟨(), trivial, Ent.el ⟨rfl, trivial⟩⟩)
    | succ i =>
      have hi : i ≤ F.length := by omega
      refine LWp.ite (b := true) (by show B _ = B _; exact congrArg B (decide_eq_true (by omega))) (fun _ => LWp.skip ?_) (fun h => by cases h)
      refine LWp.ent (Ent.el (l := [(0, strs F), (1, strs S), (5, .so gr (F.length + 1) (F.length + 1)), (6, I i)]) ⟨rfl, rfl, rfl, by show I _ = I _; exact congrArg (fun z : Int => I z) (by omega), trivial⟩) ?_
      refine LWp.blockX (fun _ : Unit => True) (fun _ => el [(0, strs F), (1, strs S), (5, .so gr (F.length + 1) (F.length + 1)), (6, I i)]) (fun _ => [(gr, .arr 35 1 (F.length + 1) (rowsE F S i))]) (fun _ => []) ?_ ?_
      · refine LWp.seq (LWp.ops ?_)
        refine WOps.xn (gs := []) (hs := []) 3 rfl rfl (by exact ⟨⟨by rw [hSl]; omega, by rw [hSl]; omega⟩, trivial⟩) ?_
        refine WOps.cons (Op1.mslice (S.length + 1) rfl rfl (by show ((S.map fun s => [Str s]).length : Int) + 1 = _; rw [hSl]; omega) (by show ((S.map fun s => [Str s]).length : Int) + 1 = _; rw [hSl]; omega) (by omega) (by omega) rfl (fun g => ?_))
        refine WOps.xd (gs := []) (hs := []) rfl trivial ?_
        refine LWp.ent (Ent.trans (Ent.ofH (H' := [(g, .arr 3 1 (S.length + 1) (entsE F S i (S.length + 1))), (gr, .arr 35 1 (F.length + 1) (rowsE F S (i + 1)))]) (by rw [entsE_start]; rfl)) (Ent.el (l := [(0, strs F), (1, strs S), (5, .so gr (F.length + 1) (F.length + 1)), (6, I i), (7, .so g (S.length + 1) (S.length + 1))]) ⟨rfl, rfl, rfl, rfl, by show AV.so _ _ _ = _; rw [List.length_replicate], trivial⟩)) ?_
        refine LWp.seq (LWp.seq ?_)
        refine LWp.x (gs := []) (hs := []) rfl trivial ?_
        refine LWp.blockT (fun _ : Unit => True) (fun _ => el [(0, strs F), (1, strs S), (5, .so gr (F.length + 1) (F.length + 1)), (6, I i), (7, .so g (S.length + 1) (S.length + 1))]) (fun _ => [(g, .arr 3 1 (S.length + 1) (entsE F S i 0)), (gr, .arr 35 1 (F.length + 1) (rowsE F S (i + 1)))]) (fun _ => []) ?_ ?_
        · refine LWp.loopN (fun m : Nat => m ≤ S.length + 1) (fun m => el [(0, strs F), (1, strs S), (5, .so gr (F.length + 1) (F.length + 1)), (6, I i), (7, .so g (S.length + 1) (S.length + 1)), (8, I ((m : Int) - 1))]) (fun m => [(g, .arr 3 1 (S.length + 1) (entsE F S i m)), (gr, .arr 35 1 (F.length + 1) (rowsE F S (i + 1)))]) (fun _ => []) (fun m => m) (S.length + 1) (Nat.le_refl _)
            (Ent.el ⟨rfl, rfl, rfl, rfl, rfl, by show I _ = I _; rw [hSl]; exact congrArg (fun z : Int => I z) (by omega), trivial⟩) ?_
          intro m hm
          refine LWp.seq (LWp.seq ?_)
          refine LWp.x (gs := []) (hs := []) rfl trivial ?_
          cases m with
          | zero =>
            refine LWp.ite (b := false) rfl (fun h => by cases h) (fun _ => LWp.exit ⟨(), trivial, Ent.el ⟨rfl, rfl, rfl, rfl, rfl, trivial⟩⟩)
          | succ k =>
            have hk : k ≤ S.length := by omega
            refine LWp.ite (b := true) (by show B _ = B _; exact congrArg B (decide_eq_true (by omega))) (fun _ => LWp.skip ?_) (fun h => by cases h)
            refine LWp.ent (Ent.el (l := [(0, strs F), (1, strs S), (5, .so gr (F.length + 1) (F.length + 1)), (6, I i), (7, .so g (S.length + 1) (S.length + 1)), (8, I k)]) ⟨rfl, rfl, rfl, rfl, rfl, by show I _ = I _; exact congrArg (fun z : Int => I z) (by omega), trivial⟩) ?_
            refine LWp.blockX (fun _ : Unit => True) (fun _ => el [(0, strs F), (1, strs S), (5, .so gr (F.length + 1) (F.length + 1)), (6, I i), (7, .so g (S.length + 1) (S.length + 1)), (8, I k)]) (fun _ => [(g, .arr 3 1 (S.length + 1) (entsE F S i k)), (gr, .arr 35 1 (F.length + 1) (rowsE F S (i + 1)))]) (fun _ => []) ?_ ?_
            · refine LWp.sx (gs := []) (hs := []) rfl trivial ?_
              refine LWp.blockX (fun _ : Unit => True) (fun _ => el [(0, strs F), (1, strs S), (5, .so gr (F.length + 1) (F.length + 1)), (6, I i), (7, .so g (S.length + 1) (S.length + 1)), (8, I k), (9, I (far (F.drop i) (S.drop k) : Nat))]) (fun _ => [(g, .arr 3 1 (S.length + 1) (entsE F S i (k + 1))), (gr, .arr 35 1 (F.length + 1) (rowsE F S (i + 1)))]) (fun _ => []) ?_ ?_
              · refine LWp.sx (gs := []) (hs := []) rfl trivial ?_
                by_cases h1 : i = F.length
                · have hv : far (F.drop i) (S.drop k) = S.length - k := by rw [List.drop_eq_nil_of_le (by omega)]; simp [far]
                  refine LWp.ite (b := true) (by show B _ = B _; exact congrArg B (by rw [beq_iff_eq]; omega)) (fun _ => ?_) (fun h => by cases h)
                  refine LWp.x (gs := []) (hs := []) rfl (by exact ⟨⟨by rw [hSl]; omega, by rw [hSl]; omega⟩, trivial⟩) ?_
                  refine ⟨(), trivial, Ent.el ⟨rfl, rfl, rfl, rfl, rfl, rfl, ?_, trivial⟩⟩
                  show I _ = I _
                  rw [hSl, hv]
                  exact congrArg (fun z : Int => I z) (by omega)
                · refine LWp.ite (b := false) (by show B _ = B _; exact congrArg B (by rw [beq_eq_false_iff_ne]; omega)) (fun h => by cases h) (fun _ => ?_)
                  refine LWp.sx (gs := []) (hs := []) rfl trivial ?_
                  by_cases h2 : k = S.length
                  · have hv : far (F.drop i) (S.drop k) = F.length - i := by rw [List.drop_eq_nil_of_le (show S.length ≤ k by omega), far_nil]; simp
                    refine LWp.ite (b := true) (by show B _ = B _; exact congrArg B (by rw [beq_iff_eq]; omega)) (fun _ => ?_) (fun h => by cases h)
                    refine LWp.x (gs := []) (hs := []) rfl (by exact ⟨⟨by rw [hFl]; omega, by rw [hFl]; omega⟩, trivial⟩) ?_
                    refine ⟨(), trivial, Ent.el ⟨rfl, rfl, rfl, rfl, rfl, rfl, ?_, trivial⟩⟩
                    show I _ = I _
                    rw [hFl, hv]
                    exact congrArg (fun z : Int => I z) (by omega)
                  · refine LWp.ite (b := false) (by show B _ = B _; exact congrArg B (by rw [beq_eq_false_iff_ne]; omega)) (fun h => by cases h) (fun _ => ?_)
                    obtain ⟨w, hw⟩ := ex_get (l := F) (k := i) (by omega)
                    obtain ⟨s, hs⟩ := ex_get (l := S) (k := k) (by omega)
                    have hfar : far (F.drop i) (S.drop k) = if fitB s w = true then min (far (F.drop (i + 1)) (S.drop (k + 1))) (min (1 + far (F.drop (i + 1)) (S.drop k)) (1 + far (F.drop i) (S.drop (k + 1)))) else min (1 + far (F.drop (i + 1)) (S.drop (k + 1))) (min (1 + far (F.drop (i + 1)) (S.drop k)) (1 + far (F.drop i) (S.drop (k + 1)))) := by
                      conv => lhs; rw [drop_cons hw, drop_cons hs, far_cons]
                      rw [← drop_cons hw, ← drop_cons hs]
                    have hrow := rowsE_get F S (n := i + 1) (j := i + 1) (by omega) (Nat.le_refl _)
                    have hr1 := tblRow_get F S (i + 1) (k := k) hk
                    have hr2 := tblRow_get F S (i + 1) (k := k + 1) (by omega)
                    have hen := entsE_get F S (i := i) (m := k + 1) (j := k + 1) (by omega) (Nat.le_refl _)
                    have b1 := far_le (F.drop (i + 1)) (S.drop k)
                    have b2 := far_le (F.drop (i + 1)) (S.drop (k + 1))
                    have b3 := far_le (F.drop i) (S.drop (k + 1))
                    simp only [List.length_drop] at b1 b2 b3
                    have hfi := rfits_ev s w
                    rw [hfar]
                    generalize far (F.drop (i + 1)) (S.drop k) = x10 at hr1 b1
                    generalize far (F.drop (i + 1)) (S.drop (k + 1)) = x11 at hr2 b2
                    generalize far (F.drop i) (S.drop (k + 1)) = x01 at hen b3
                    have e1 : ((i : Int) + 1).toNat = i + 1 := by omega
                    have e2 : ((k : Int) + 1).toNat = k + 1 := by omega
                    have e3 : (k : Int).toNat = k := by omega
                    refine LWp.sd (gs := []) (hs := [.elt 1 (i + 1) 0 [ints (tblRow F S (i + 1))], .cells [I x10], .elt 0 (k + 1) 0 [I x01], .elt 1 (i + 1) 0 [ints (tblRow F S (i + 1))], .cells [I x11], .op (I (min (min x10 x01) x11))]) hmix rfl (by kernel_rfl) (by exact ⟨⟨by omega, by omega⟩, ⟨by omega, by omega⟩, ⟨rfl, by rw [e1]; rfl, hrow⟩, ⟨by omega, by rw [e3]; exact getI hr1⟩, ⟨by omega, by omega⟩, ⟨by omega, by omega⟩, ⟨rfl, by rw [e2]; rfl, hen⟩, ⟨by omega, by omega⟩, ⟨by omega, by omega⟩, ⟨rfl, by rw [e1]; rfl, hrow⟩, ⟨by omega, by omega⟩, ⟨by omega, by rw [e2]; exact getI hr2⟩, (fun _ _ _ => Op1.min3 rfl rfl rfl ⟨rfl, rfl, rfl⟩), ⟨by omega, by omega⟩, trivial⟩) ?_
                    refine LWp.seq ?_
                    generalize fitB s w = fb at hfi
                    refine LWp.dd (gs := []) (hs := [.cells [Str s], .cells [Str w], .ret (B fb)]) hmix rfl (by kernel_rfl) ⟨⟨by omega, by rw [e3]; simp [hs]⟩, ⟨by omega, by simp [hw]⟩, hfi, trivial⟩ ?_
                    cases fb with
                    | true =>
                      refine LWp.ite (b := true) rfl (fun _ => ?_) (fun h => by cases h)
                      refine LWp.x (gs := []) (hs := [.elt 1 (i + 1) 0 [ints (tblRow F S (i + 1))], .cells [I x11]]) rfl (by exact ⟨⟨by omega, by omega⟩, ⟨by omega, by omega⟩, ⟨rfl, by rw [e1]; rfl, hrow⟩, ⟨by omega, by omega⟩, ⟨by omega, by rw [e2]; exact getI hr2⟩, trivial⟩) ?_
                      refine ⟨(), trivial, Ent.el ⟨rfl, rfl, rfl, rfl, rfl, rfl, ?_, trivial⟩⟩
                      show I _ = I _
                      rw [if_pos rfl]
                      show I (min (1 + min (min (x10 : Int) x01) x11) x11) = I ((min x11 (min (1 + x10) (1 + x01)) : Nat) : Int)
                      exact congrArg (fun z : Int => I z) (by omega)
                    | false =>
                      refine LWp.ite (b := false) rfl (fun h => by cases h) (fun _ => LWp.skip ?_)
                      refine ⟨(), trivial, Ent.el ⟨rfl, rfl, rfl, rfl, rfl, rfl, ?_, trivial⟩⟩
                      show I _ = I _
                      rw [if_neg (by decide)]
                      show I (1 + min (min (x10 : Int) x01) x11) = I ((min (1 + x11) (min (1 + x10) (1 + x01)) : Nat) : Int)
                      exact congrArg (fun z : Int => I z) (by omega)
              intro _ _
              refine LWp.ops ?_
              refine WOps.xn (gs := []) (hs := []) 4 rfl rfl ⟨⟨by omega, by omega⟩, trivial⟩ ?_
              refine WOps.cons (Op1.storeE (i := 0) (m := k) (f := 0) rfl rfl (by show ((k : Int).toNat) * 1 = _; simp) (entsE_get0 F S hk (by omega)) rfl rfl rfl rfl (by show 1 ≤ 1; decide) ?_)
              refine WOps.nil ⟨(), trivial, Ent.trans (Ent.ofH ?_) (Ent.el ⟨rfl, rfl, rfl, rfl, rfl, rfl, trivial⟩)⟩
              show [(g, HObj.arr 3 1 (S.length + 1) ((entsE F S i (k + 1)).set k [I (far (F.drop i) (S.drop k) : Nat)])), _] = _
              rw [entsE_set F S i hk]
            · intro _ _
              refine LWp.x (gs := []) (hs := []) rfl ⟨by omega, trivial⟩ ?_
              exact ⟨k, by omega, by omega, Ent.el ⟨rfl, rfl, rfl, rfl, rfl, rfl, trivial⟩⟩
        · intro _ _
          refine LWp.ent (Ent.unshare (i := 0) (t := 7) (es := entsE F S i 0) (by rw [entsE_len]; rfl) rfl) ?_
          refine LWp.ent (Ent.freezeLin (t := 7) rfl) ?_
          rw [entsE_end]
          refine LWp.ops ?_
          refine WOps.xn (gs := []) (hs := []) 4 rfl rfl ⟨⟨by omega, by omega⟩, trivial⟩ ?_
          refine WOps.cons (Op1.storeE (i := 0) (m := i) (f := 0) rfl rfl (by show ((i : Int).toNat) * 1 = _; simp) (rowsE_get0 F S hi (by omega)) rfl rfl rfl rfl (by show 1 ≤ 1; decide) ?_)
          refine WOps.nil ⟨(), trivial, Ent.trans (Ent.ofH ?_) (Ent.el ⟨rfl, rfl, rfl, rfl, trivial⟩)⟩
          show [(gr, HObj.arr 35 1 (F.length + 1) ((rowsE F S (i + 1)).set i [ints (tblRow F S i)]))] = _
          rw [rowsE_set F S hi]
      · intro _ _
        refine LWp.x (gs := []) (hs := []) rfl ⟨by omega, trivial⟩ ?_
        exact ⟨i, by omega, by omega, Ent.el ⟨rfl, rfl, rfl, rfl, trivial⟩⟩
  · intro _ _
    refine LWp.sx (gs := []) (hs := []) rfl trivial ?_
    refine LWp.ent (Ent.unshare (i := 0) (t := 4) (es := rowsE F S 0) (by rw [rowsE_len]; rfl) rfl) ?_
    refine LWp.ent (Ent.freezeLin (t := 4) rfl) ?_
    refine LWp.ret (retT (.inr rfl) (.one (.tmp ?_ rfl)))
    show AV.sl 1 _ = _
    rw [rowsE_end]
theorem rfar_ev (F S : List Wd) (hF : F.length ≤ 1000) (hS : S.length ≤ 1000) : Ev Try.prog 124 [strs F, strs S] (I (far F S : Nat)) := by
  refine Ev.intro fn124 ?_
  have h1 := tbl_get F S (i := 0) (Nat.zero_le _)
  have h2 := tblRow_get F S 0 (k := 0) (Nat.zero_le _)
  rw [List.drop_zero, List.drop_zero] at h2
  have hle := rleast_ev F S hF hS
  generalize tbl F S = T at h1 hle
  generalize tblRow F S 0 = R at h1 h2
  refine LWp.sx (gs := []) (hs := []) rfl trivial ?_
  refine LWp.sx (gs := []) (hs := [.ret (tblV T), .cells [ints R], .cells [I (far F S : Nat)]]) rfl ⟨hle, ⟨by decide, by simp [h1]⟩, ⟨by decide, getI h2⟩, trivial⟩ ?_
  refine LWp.ret (retT (.inr rfl) (.one (.tmp ?_ rfl)))
  rfl
end Go.Px

namespace Go.Px
open Go.Proofs
theorem bestN_snoc : ∀ {l : List Nat}, l ≠ [] → ∀ x, bestN (l ++ [x]) = if x < (bestN l).2 then (l.length, x) else bestN l
  | [a], _, x => by
    show (if (bestN [x]).2 < a then ((bestN [x]).1 + 1, (bestN [x]).2) else (0, a)) = _
    simp only [bestN, List.length_singleton, Nat.zero_add]
    rfl
  | a :: b :: l, _, x => by
    have ih := bestN_snoc (l := b :: l) (by simp) x
    have e1 : bestN ((a :: b :: l) ++ [x]) = if (bestN ((b :: l) ++ [x])).2 < a then ((bestN ((b :: l) ++ [x])).1 + 1, (bestN ((b :: l) ++ [x])).2) else (0, a) := rfl
    have e2 : bestN (a :: b :: l) = if (bestN (b :: l)).2 < a then ((bestN (b :: l)).1 + 1, (bestN (b :: l)).2) else (0, a) := rfl
    rw [e1, e2, ih]
    generalize bestN (b :: l) = p
    obtain ⟨p1, p2⟩ := p
    by_cases h1 : x < p2
    · rw [if_pos h1]
      by_cases h2 : p2 < a
      · rw [if_pos h2]
        simp only
        rw [if_pos h1, if_pos (by omega)]
        simp
      · rw [if_neg h2]
        simp only
        by_cases h3 : x < a
        · rw [if_pos h3, if_pos h3]; simp
        · rw [if_neg h3, if_neg h3]
    · rw [if_neg h1]
      by_cases h2 : p2 < a
      · rw [if_pos h2]
        simp only
        rw [if_neg h1]
      · rw [if_neg h2]
        simp only
        rw [if_neg (by omega)]
theorem rmends_ev (f : Form) (hv : FormV f) (l : List Wd) (h15 : l.length ≤ 15) : Ev Try.prog 88 [.agg f.enc, strs l] (I (mendsF f.parts l : Nat)) := by
  have hp5 := hv.p5
  have hro := rooms_ok hv.parts
  have hrl := roomsL_len f.parts
  have hrm := rrooms_ev f (by omega)
  have hcn := rcounts_ev (roomsL f.parts) hro (by omega)
  have hne := form_cnts_ne hv.parts
  have hsh : ∀ ms ∈ cnts (roomsL f.parts), Ev Try.prog 110 [.agg f.enc, natsV ms] (strs (shapeF f.parts ms)) ∧ Ev Try.prog 124 [strs l, strs (shapeF f.parts ms)] (I (far l (shapeF f.parts ms) : Nat)) ∧ far l (shapeF f.parts ms) ≤ 1000 := by
    intro ms h
    obtain ⟨m1, m2, m3⟩ := shape_small hv h
    refine ⟨rshape_ev f ms (fun m hm => by have := m2 m hm; omega) m1 (by omega) (by omega), rfar_ev _ _ (by omega) (by omega), ?_⟩
    have := far_le l (shapeF f.parts ms)
    omega
  have hM : mendsF f.parts l = minN ((cnts (roomsL f.parts)).map fun m => far l (shapeF f.parts m)) := rfl
  rw [hM]
  refine Ev.intro fn88 ?_
  refine LWp.sx (gs := []) (hs := [.ice]) rfl ⟨⟨rfl, rfl⟩, trivial⟩ ?_
  refine LWp.sx (gs := []) (hs := [.ret (roomsV (roomsL f.parts)), .ret (cntsV (cnts (roomsL f.parts)))]) rfl ⟨hrm, hcn, trivial⟩ ?_
  have hC := cnts_size (rs := roomsL f.parts) (fun r hr => ⟨(hro r hr).1, (hro r hr).2.2.2⟩)
  have hC2 : 4 ^ (roomsL f.parts).length ≤ 4 ^ 5 := Nat.pow_le_pow_right (by omega) (by omega)
  generalize cnts (roomsL f.parts) = C at hne hsh hC
  obtain ⟨c0, hc0⟩ := ex_get (l := C) (k := 0) (List.length_pos_iff.2 hne)
  obtain ⟨s1, s2, s3⟩ := hsh c0 (List.mem_of_getElem? hc0)
  have ht1 : (C.take 1).map (fun m => far l (shapeF f.parts m)) = [far l (shapeF f.parts c0)] := by
    rw [List.take_add_one, hc0]; rfl
  refine LWp.cutX (fun _ : Unit => True) (fun _ => el [(1, strs l), (2, .pi f.enc), (5, cntsV C), (6, I (minN ((C.take 1).map fun m => far l (shapeF f.parts m)) : Nat))]) (fun _ => []) (fun _ => []) ?_ ?_
  · rw [ht1]
    generalize shapeF f.parts c0 = S0 at s1 s2 s3
    refine LWp.dd (gs := []) (hs := [.cells [natsV c0], .ret (strs S0), .ret (I (far l S0 : Nat))]) hmix rfl (by kernel_rfl) ⟨⟨by decide, by simp [hc0]⟩, s1, s2, trivial⟩ ?_
    exact ⟨(), trivial, Ent.el ⟨rfl, rfl, rfl, rfl, trivial⟩⟩
  intro _ _
  refine LWp.seq (LWp.seq ?_)
  refine LWp.x (gs := []) (hs := []) rfl trivial ?_
  refine LWp.blockT (fun _ : Unit => True) (fun _ => el [(6, I (minN (C.map fun m => far l (shapeF f.parts m)) : Nat))]) (fun _ => []) (fun _ => []) ?_ ?_
  · refine LWp.loopN (fun k : Nat => 1 ≤ k ∧ k ≤ C.length) (fun k => el [(1, strs l), (2, .pi f.enc), (5, cntsV C), (6, I (minN ((C.take k).map fun m => far l (shapeF f.parts m)) : Nat)), (7, I k)]) (fun _ => []) (fun _ => []) (fun k => C.length - k) 1 ⟨Nat.le_refl _, List.length_pos_iff.2 hne⟩
      (Ent.el ⟨rfl, rfl, rfl, rfl, rfl, trivial⟩) ?_
    rintro k ⟨hk1, hk⟩
    refine LWp.seq (LWp.seq ?_)
    refine LWp.x (gs := []) (hs := []) rfl trivial ?_
    refine LWp.ite rfl (fun he => ?_) (fun he => ?_)
    · simp only [List.length_map, decide_eq_true_eq, Int.ofNat_lt] at he
      obtain ⟨c, hc⟩ := ex_get he
      obtain ⟨s1, s2, s3⟩ := hsh c (List.mem_of_getElem? hc)
      have htk : minN ((C.take (k + 1)).map fun m => far l (shapeF f.parts m)) = min (minN ((C.take k).map fun m => far l (shapeF f.parts m))) (far l (shapeF f.parts c)) := by
        rw [List.take_add_one, hc, List.map_append]
        exact minN_snoc (by
          intro h0
          have := congrArg List.length h0
          rw [List.length_map, List.length_take, List.length_nil] at this
          omega) _
      refine LWp.skip ?_
      refine LWp.blockX (fun _ : Unit => True) (fun _ => el [(1, strs l), (2, .pi f.enc), (5, cntsV C), (6, I (minN ((C.take (k + 1)).map fun m => far l (shapeF f.parts m)) : Nat)), (7, I k)]) (fun _ => []) (fun _ => []) ?_ ?_
      · rw [htk]
        generalize shapeF f.parts c = S0 at s1 s2 s3
        generalize minN ((C.take k).map fun m => far l (shapeF f.parts m)) = a
        refine LWp.dd (gs := []) (hs := [.cells [natsV c], .ret (strs S0), .ret (I (far l S0 : Nat))]) hmix rfl (by kernel_rfl) ⟨⟨by omega, by simp [hc]⟩, s1, s2, trivial⟩ ?_
        refine ⟨(), trivial, Ent.el ⟨rfl, rfl, rfl, ?_, rfl, trivial⟩⟩
        show I (min (a : Int) (far l S0 : Nat)) = I ((min a (far l S0) : Nat) : Int)
        exact congrArg (fun z : Int => I z) (by omega)
      intro _ _
      refine LWp.x (gs := []) (hs := []) rfl ⟨by omega, trivial⟩ ?_
      exact ⟨k + 1, ⟨by omega, by omega⟩, by omega, Ent.el ⟨rfl, rfl, rfl, rfl, rfl, trivial⟩⟩
    · simp only [List.length_map, decide_eq_false_iff_not, Int.ofNat_lt] at he
      exact LWp.exit ⟨(), trivial, Ent.el ⟨by rw [List.take_of_length_le (by omega)]; rfl, trivial⟩⟩
  intro _ _
  refine LWp.sx (gs := []) (hs := []) rfl trivial ?_
  refine LWp.ret (retT (.inr rfl) (.one (.tmp ?_ rfl)))
  rfl
theorem rmend_ev (s : Shelf) (hw : s.wf) (n : Int) (l : List Wd) : Ev Try.prog 38 [.agg s.enc, I n, strs l] (.tup [I (mendR s n l).1, I (mendR s n l).2]) := by
  have hfl : (s.forms.map Form.enc).length = s.forms.length := List.length_map _
  have hfo := rform_ev s hw n
  have hth := rthen_ev l (formI s n)
  have hR : mendR s n l = if thenE (formI s n) l = 0 then (((mendsF (partsOf s n) l : Nat) : Int), 0) else (0, thenE (formI s n) l) := rfl
  rw [hR]
  refine Ev.intro fn38 ?_
  refine LWp.sx (gs := []) (hs := [.ice]) rfl ⟨⟨rfl, rfl⟩, trivial⟩ ?_
  refine LWp.sx (gs := []) (hs := [.ret (I (formI s n)), .ret (I (thenE (formI s n) l))]) rfl ⟨hfo, hth, trivial⟩ ?_
  refine LWp.seq (LWp.seq ?_)
  refine LWp.x (gs := []) (hs := []) rfl trivial ?_
  refine LWp.ite rfl (fun h => ?_) (fun h => LWp.skip ?_)
  · have h : thenE (formI s n) l ≠ 0 := by simpa using h
    rw [if_neg h]
    refine LWp.sx (gs := []) (hs := []) rfl trivial ?_
    exact LWp.ret (retT (.inr rfl) (.many (by decide) ⟨.tmp rfl rfl, .tmp rfl rfl, trivial⟩))
  have h : thenE (formI s n) l = 0 := by simpa using h
  rw [if_pos h]
  have h0 : formI s n = 0 := by
    by_cases g : formI s n = 0
    · exact g
    · rw [thenE, if_neg g] at h; exact absurd h g
  have hlE : letterE l = 0 := by rw [thenE, if_pos h0] at h; exact h
  have h15 := (letter_zero.1 hlE).1
  obtain ⟨_, V, n0, n1, n2, f, hf, hv, hpo⟩ := formI_iff h0
  rw [hpo]
  refine LWp.sx (gs := []) (hs := [.cells f.enc, .ret (I (mendsF f.parts l : Nat))]) rfl ⟨⟨by omega, by simp [hf]⟩, rmends_ev f hv l h15, trivial⟩ ?_
  exact LWp.ret (retT (.inr rfl) (.many (by decide) ⟨.tmp rfl rfl, .tmp rfl rfl, trivial⟩))
theorem rnearest_ev (s : Shelf) (hw : s.wf) (l : List Wd) : Ev Try.prog 40 [.agg s.enc, strs l] (.tup [I (nearestR s l).1, I (nearestR s l).2.1, I (nearestR s l).2.2]) := by
  have hfl : (s.forms.map Form.enc).length = s.forms.length := List.length_map _
  have hck := rcheck_ev s hw
  have hth := rthen_ev l (checkS s).2.2
  have res : ∀ {env : Env} {H : Heap} {x y r : Int}, nearestR s l = (x, y, r) → env 4 = I x → env 5 = I y → env 6 = I r → retP Try.prog [.tmp 4, .tmp 5, .tmp 6] (.tup [I (nearestR s l).1, I (nearestR s l).2.1, I (nearestR s l).2.2]) .ret env H [] := by
    intro env H x y r h h2 h3 h4
    rw [h]
    exact retT (.inr rfl) (.many (by decide) ⟨.tmp h2 rfl, .tmp h3 rfl, .tmp h4 rfl, trivial⟩)
  have hE : nearE s l = if thenE (checkS s).2.2 l = 0 then (if s.forms = [] then 9 else 0) else thenE (checkS s).2.2 l := rfl
  have hbad : nearE s l ≠ 0 → nearestR s l = (0, 0, nearE s l) := fun h => by unfold nearestR; rw [if_neg h]
  have hgood : nearE s l = 0 → nearestR s l = ((((bestN (s.forms.map fun f => mendsF f.parts l)).1 : Nat) : Int), (((bestN (s.forms.map fun f => mendsF f.parts l)).2 : Nat) : Int), 0) := fun h => by unfold nearestR; rw [if_pos h]
  have hV := @thenE_shelf s l
  refine Ev.intro fn40 ?_
  generalize (checkS s).1 = c1 at hck
  generalize (checkS s).2.1 = c2 at hck
  generalize (checkS s).2.2 = c3 at hck hth hE hV
  refine LWp.sx (gs := []) (hs := [.ice]) rfl ⟨⟨rfl, rfl⟩, trivial⟩ ?_
  refine LWp.sx (gs := []) (hs := [.ret (.tup [I c1, I c2, I c3])]) rfl ⟨hck, trivial⟩ ?_
  generalize thenE c3 l = e3 at hth hE hV
  refine LWp.sx (gs := []) (hs := [.ret (I e3)]) rfl ⟨hth, trivial⟩ ?_
  refine LWp.cutX (fun _ : Unit => True) (fun _ => el [(1, strs l), (2, .pi s.enc), (9, I (nearE s l))]) (fun _ => []) (fun _ => []) ?_ ?_
  · refine LWp.cutX (fun _ : Unit => True) (fun _ => el [(1, strs l), (2, .pi s.enc), (9, I e3), (30, B (decide (e3 = 0 ∧ s.forms = [])))]) (fun _ => []) (fun _ => []) ?_ ?_
    · by_cases h : e3 = 0
      · have g : (e3 == 0) = true := by rw [beq_iff_eq]; exact h
        refine LWp.x (gs := [(25, true)]) (hs := []) rfl (by (repeat' (with_reducible apply And.intro)); (all_goals try first | (with_reducible exact trivial) | (with_reducible rfl) | (with_reducible assumption) | ((with_reducible apply isB); first | exact rfl | exact beq_self_eq_true _))) ?_
        refine ⟨(), trivial, Ent.el ⟨rfl, rfl, rfl, ?_, trivial⟩⟩
        show B _ = B _
        refine congrArg B ?_
        rw [hfl, Bool.eq_iff_iff]; simp [h]
      · have g : (e3 == 0) = false := by rw [beq_eq_false_iff_ne]; exact h
        refine LWp.x (gs := [(25, false)]) (hs := []) rfl (by (repeat' (with_reducible apply And.intro)); (all_goals try first | (with_reducible exact trivial) | (with_reducible rfl) | (with_reducible assumption) | ((with_reducible apply isB); first | exact rfl | exact beq_self_eq_true _))) ?_
        refine ⟨(), trivial, Ent.el ⟨rfl, rfl, rfl, ?_, trivial⟩⟩
        show B _ = B _
        refine congrArg B ?_
        rw [Bool.eq_iff_iff]; simp [h]
    intro _ _
    refine LWp.ite rfl (fun h => ?_) (fun h => LWp.skip ?_)
    · have h : e3 = 0 ∧ s.forms = [] := of_decide_eq_true h
      refine LWp.x (gs := []) (hs := []) rfl trivial ?_
      refine ⟨(), trivial, Ent.el ⟨rfl, rfl, ?_, trivial⟩⟩
      rw [hE, if_pos h.1, if_pos h.2]; rfl
    · have h : ¬ (e3 = 0 ∧ s.forms = []) := of_decide_eq_false h
      refine ⟨(), trivial, Ent.el ⟨rfl, rfl, ?_, trivial⟩⟩
      rw [hE]
      by_cases h3 : e3 = 0
      · rw [if_pos h3, if_neg (fun g => h ⟨h3, g⟩), ← h3]; rfl
      · rw [if_neg h3]; rfl
  intro _ _
  refine LWp.seq (LWp.seq ?_)
  refine LWp.x (gs := []) (hs := []) rfl trivial ?_
  by_cases h0 : nearE s l = 0
  case neg =>
    refine LWp.ite (b := true) (by show B _ = B _; exact congrArg B (by rw [bne_iff_ne]; exact h0)) (fun _ => ?_) (fun h => by cases h)
    refine LWp.sx (gs := []) (hs := []) rfl trivial ?_
    exact LWp.ret (res (hbad h0) rfl rfl rfl)
  refine LWp.ite (b := false) (by show B _ = B _; exact congrArg B (by rw [h0]; rfl)) (fun h => by cases h) (fun _ => LWp.skip ?_)
  have hR := hgood h0
  rw [h0] at hE
  have h3 : e3 = 0 := by
    by_cases g : e3 = 0
    · exact g
    · rw [if_neg g] at hE; exact hE.symm
  rw [if_pos h3] at hE
  have hne : s.forms ≠ [] := by
    intro g
    rw [if_pos g] at hE; cases hE
  obtain ⟨V, hlE⟩ := hV h3
  have h15 := (letter_zero.1 hlE).1
  have hf4 := V.f4
  have hms : ∀ (i : Nat) (f : Form), s.forms[i]? = some f → Ev Try.prog 88 [.agg f.enc, strs l] (I (mendsF f.parts l : Nat)) := fun i f hf => rmends_ev f (V.forms f (List.mem_of_getElem? hf)).2 l h15
  have hpos := List.length_pos_iff.2 hne
  obtain ⟨f0, hf0⟩ := ex_get (l := s.forms) (k := 0) hpos
  refine LWp.sx (gs := []) (hs := [.cells f0.enc, .ret (I (mendsF f0.parts l : Nat))]) rfl ⟨⟨by decide, by simp [hf0]⟩, hms 0 f0 hf0, trivial⟩ ?_
  refine LWp.seq (LWp.seq ?_)
  refine LWp.x (gs := []) (hs := []) rfl trivial ?_
  have ht1 : (s.forms.take 1).map (fun f => mendsF f.parts l) = [mendsF f0.parts l] := by
    rw [List.take_add_one, hf0]; rfl
  refine LWp.blockT (fun _ : Unit => True) (fun _ => el [(10, I ((bestN (s.forms.map fun f => mendsF f.parts l)).1 : Nat)), (11, I ((bestN (s.forms.map fun f => mendsF f.parts l)).2 : Nat))]) (fun _ => []) (fun _ => []) ?_ ?_
  · refine LWp.loopN (fun k : Nat => 1 ≤ k ∧ k ≤ s.forms.length) (fun k => el [(1, strs l), (2, .pi s.enc), (10, I ((bestN ((s.forms.take k).map fun f => mendsF f.parts l)).1 : Nat)), (11, I ((bestN ((s.forms.take k).map fun f => mendsF f.parts l)).2 : Nat)), (12, I k)]) (fun _ => []) (fun _ => []) (fun k => s.forms.length - k) 1 ⟨Nat.le_refl _, hpos⟩
      (Ent.el ⟨rfl, rfl, by rw [ht1]; rfl, by rw [ht1]; rfl, rfl, trivial⟩) ?_
    rintro k ⟨hk1, hk⟩
    refine LWp.seq (LWp.seq ?_)
    refine LWp.x (gs := []) (hs := []) rfl trivial ?_
    refine LWp.ite rfl (fun he => ?_) (fun he => ?_)
    · simp only [List.length_map, decide_eq_true_eq, Int.ofNat_lt] at he
      obtain ⟨f, hf⟩ := ex_get he
      have htl : ((s.forms.take k).map fun f => mendsF f.parts l).length = k := by rw [List.length_map, List.length_take]; omega
      have htk : bestN ((s.forms.take (k + 1)).map fun f => mendsF f.parts l) = if mendsF f.parts l < (bestN ((s.forms.take k).map fun f => mendsF f.parts l)).2 then (k, mendsF f.parts l) else bestN ((s.forms.take k).map fun f => mendsF f.parts l) := by
        rw [List.take_add_one, hf, List.map_append]
        have := bestN_snoc (l := (s.forms.take k).map fun f => mendsF f.parts l) (by
          intro h0
          rw [h0] at htl; simp at htl; omega) (mendsF f.parts l)
        rw [htl] at this
        exact this
      have hmf := hms k f hf
      refine LWp.skip ?_
      refine LWp.blockX (fun _ : Unit => True) (fun _ => el [(1, strs l), (2, .pi s.enc), (10, I ((bestN ((s.forms.take (k + 1)).map fun f => mendsF f.parts l)).1 : Nat)), (11, I ((bestN ((s.forms.take (k + 1)).map fun f => mendsF f.parts l)).2 : Nat)), (12, I k)]) (fun _ => []) (fun _ => []) ?_ ?_
      · rw [htk]
        generalize bestN ((s.forms.take k).map fun f => mendsF f.parts l) = p
        generalize mendsF f.parts l = q at hmf
        refine LWp.sx (gs := []) (hs := [.cells f.enc, .ret (I q)]) rfl ⟨⟨by omega, by simp [hf]⟩, hmf, trivial⟩ ?_
        refine LWp.seq ?_
        refine LWp.x (gs := []) (hs := []) rfl trivial ?_
        by_cases hq : q < p.2
        · refine LWp.ite (b := true) (by show B _ = B _; exact congrArg B (decide_eq_true (by omega))) (fun _ => ?_) (fun h => by cases h)
          rw [if_pos hq]
          refine LWp.x (gs := []) (hs := []) rfl trivial ?_
          exact ⟨(), trivial, Ent.el ⟨rfl, rfl, rfl, rfl, rfl, trivial⟩⟩
        · refine LWp.ite (b := false) (by show B _ = B _; exact congrArg B (decide_eq_false (by omega))) (fun h => by cases h) (fun _ => LWp.skip ?_)
          rw [if_neg hq]
          exact ⟨(), trivial, Ent.el ⟨rfl, rfl, rfl, rfl, rfl, trivial⟩⟩
      intro _ _
      refine LWp.x (gs := []) (hs := []) rfl ⟨by omega, trivial⟩ ?_
      exact ⟨k + 1, ⟨by omega, by omega⟩, by omega, Ent.el ⟨rfl, rfl, rfl, rfl, rfl, trivial⟩⟩
    · simp only [List.length_map, decide_eq_false_iff_not, Int.ofNat_lt] at he
      exact LWp.exit ⟨(), trivial, Ent.el ⟨by rw [List.take_of_length_le (by omega)]; rfl, by rw [List.take_of_length_le (by omega)]; rfl, trivial⟩⟩
  intro _ _
  refine LWp.sx (gs := []) (hs := []) rfl trivial ?_
  exact LWp.ret (res hR rfl rfl rfl)
end Go.Px

namespace Go.Px
open Go.Proofs
theorem letterMends_ev (s : Shelf) (hw : s.wf) (n : Int) (l : List Wd) : Ev Try.prog 7 [.agg s.enc, I n, strs l] (B true) := by
  have e1 := mend_ev s hw n l
  have e2 := rmend_ev s hw n l
  have e3 := nearest_ev s hw l
  have e4 := rnearest_ev s hw l
  generalize (mendR s n l).1 = p at e1 e2
  generalize (mendR s n l).2 = q at e1 e2
  generalize (nearestR s l).1 = x at e3 e4
  generalize (nearestR s l).2.1 = y at e3 e4
  generalize (nearestR s l).2.2 = z at e3 e4
  refine Ev.intro fn7 ?_
  refine LWp.sx (gs := []) (hs := [.ice]) rfl ⟨⟨rfl, rfl⟩, trivial⟩ ?_
  refine LWp.sx (gs := []) (hs := [.ret (.tup [I p, I q])]) rfl ⟨e1, trivial⟩ ?_
  refine LWp.sx (gs := []) (hs := [.ret (.tup [I p, I q])]) rfl ⟨e2, trivial⟩ ?_
  refine LWp.seq (LWp.seq ?_)
  refine LWp.x (gs := [(30, false)]) (hs := []) rfl (by simp) ?_
  refine LWp.ite rfl (fun h => ?_) (fun _ => LWp.skip ?_)
  · simp at h
  refine LWp.sx (gs := []) (hs := [.ret (.tup [I x, I y, I z])]) rfl ⟨e3, trivial⟩ ?_
  refine LWp.sx (gs := []) (hs := [.ret (.tup [I x, I y, I z])]) rfl ⟨e4, trivial⟩ ?_
  refine LWp.sx (gs := [(52, true), (57, true), (62, true)]) (hs := [.ret (B true)]) rfl (by (repeat' (with_reducible apply And.intro)); (all_goals try first | (with_reducible exact trivial) | (with_reducible rfl) | (with_reducible assumption) | ((with_reducible apply isB); first | exact rfl | exact beq_self_eq_true _)); exact awake_ev) ?_
  refine LWp.ret (retT (.inr rfl) (.one (.tmp ?_ rfl)))
  rfl
end Go.Px

