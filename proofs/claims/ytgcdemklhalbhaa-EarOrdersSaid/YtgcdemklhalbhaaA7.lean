/- Part 7 of the proof of the statements of this seat (a logic of pure contracts, the functions lowered, their contracts, the statements). No conditions. -/
import Derived.Test.YtgcdemklhalbhaaA6
namespace Go.Px
open Go.Proofs

theorem inB_of (n lo hi : Int) : (decide (lo ≤ n) && decide (n ≤ hi)) = !beyondB lo hi [n] := by
  rw [← inB_not]; simp
theorem beyondB_cons (lo hi n : Int) (l : List Int) : beyondB lo hi (n :: l) = (beyondB lo hi [n] || beyondB lo hi l) := by
  simp [beyondB]

theorem indices_ev (b : Book) (hw : b.wf) (l : List Int) (m : Int) (hm0 : 0 ≤ m) (hm1 : m ≤ 9223372036854775807) : Ev Try.prog 71 [.agg b.enc, ints l, I m] (I (enterE b m l)) := by
  refine Ev.intro fn71 ?_
  refine LWp.slLen 1 rfl fun hll => ?_
  simp only [List.length_map] at hll
  refine LWp.sx (gs := []) (hs := [.ice]) rfl ⟨⟨rfl, rfl⟩, trivial⟩ ?_
  refine LWp.sx (gs := []) (hs := [.ret (.tup [I (check b).1, I (check b).2.1, I (check b).2.2])]) rfl ⟨rcheck_ev b hw, trivial⟩ ?_
  refine LWp.seq (LWp.seq ?_)
  refine LWp.x (gs := []) (hs := []) rfl trivial ?_
  refine LWp.blockT (fun _ : Unit => True) (fun _ => el [(9, I (enterE b m l))]) (fun _ => []) (fun _ => []) ?_ ?_
  · refine LWp.loopN (X := Nat × Int) (fun x => x.1 ≤ l.length ∧ enterE b m l = if x.2 = 0 then (if beyondB 0 (m - 1) (l.drop x.1) = true then 4 else 0) else x.2) (fun x => el [(1, ints l), (2, I m), (9, I x.2), (10, I x.1)]) (fun _ => []) (fun _ => []) (fun x => l.length - x.1) (0, (check b).2.2) ⟨by simp, rfl⟩
      (Ent.el ⟨rfl, rfl, rfl, rfl, trivial⟩) ?_
    rintro ⟨k, e⟩ ⟨hk, hi⟩
    simp only at hk hi ⊢
    refine LWp.seq (LWp.seq ?_)
    by_cases hc : k < l.length
    · obtain ⟨n, hn⟩ := ex_get hc
      rw [drop_cons hn, beyondB_cons] at hi
      refine LWp.x (gs := [(21, true)]) (hs := []) rfl (by simp [hc]) ?_
      refine LWp.ite rfl (fun hb => ?_) (fun hb => ?_)
      · simp only [beq_iff_eq] at hb
        subst hb
        rw [if_pos rfl] at hi
        refine LWp.skip (LWp.seq (LWp.block (LWp.seq ?_)))
        refine LWp.x (gs := []) (hs := [.cells [I n], .ret (B (decide (0 ≤ n) && decide (n ≤ m - 1)))]) rfl ⟨⟨by omega, by simp [hn]⟩, by omega, in_ev _ 0 _, trivial⟩ ?_
        refine LWp.ite rfl (fun hd => ?_) (fun hd => ?_)
        · rw [inB_not] at hd
          rw [hd] at hi
          refine LWp.x (gs := []) (hs := []) rfl trivial ?_
          refine LWp.x (gs := []) (hs := []) rfl ⟨by omega, trivial⟩ ?_
          refine ⟨(k + 1, 4), ⟨hc, ?_⟩, by simp only; omega, Ent.el ⟨rfl, rfl, rfl, rfl, trivial⟩⟩
          rw [hi]; rfl
        · rw [inB_not] at hd
          rw [hd, Bool.false_or] at hi
          refine LWp.skip ?_
          refine LWp.x (gs := []) (hs := []) rfl ⟨by omega, trivial⟩ ?_
          exact ⟨(k + 1, 0), ⟨hc, by rw [hi]; rfl⟩, by simp only; omega, Ent.el ⟨rfl, rfl, rfl, rfl, trivial⟩⟩
      · simp only [beq_eq_false_iff_ne, ne_eq] at hb
        rw [if_neg hb] at hi
        exact LWp.exit ⟨(), trivial, Ent.el ⟨by rw [hi]; rfl, trivial⟩⟩
    · rw [drop_nil hc] at hi
      have : enterE b m l = e := by
        rw [hi]
        split
        · rename_i h; rw [h]; rfl
        · rfl
      refine LWp.x (gs := [(21, false)]) (hs := []) rfl (by simp [hc]) ?_
      refine LWp.ite (b := false) rfl (fun hb => by cases hb) (fun _ => ?_)
      exact LWp.exit ⟨(), trivial, Ent.el ⟨by rw [this]; rfl, trivial⟩⟩
  · intro _ _
    refine LWp.sx (gs := []) (hs := []) rfl trivial ?_
    refine LWp.ret (retT (.inr rfl) (.one (.tmp ?_ rfl)))
    rfl

theorem one_ev (b : Book) (hw : b.wf) (hs : b.ss.length ≤ 9223372036854775807) (i : Int) : Ev Try.prog 61 [.agg b.enc, I i] (I (enterE b b.ss.length [i])) := by
  have hln : ((b.ss.map Spelling.enc).length : Int) = b.ss.length := by simp
  refine Ev.intro fn61 ?_
  refine LWp.sx (gs := []) (hs := [.ice]) rfl ⟨⟨rfl, rfl⟩, trivial⟩ ?_
  refine LWp.sx (gs := []) (hs := [.ice, .ret (I (enterE b b.ss.length [i]))]) rfl ⟨rfl, by rw [← hln]; exact indices_ev b hw [i] _ (by omega) (by omega), trivial⟩ ?_
  refine LWp.ret (retT (.inr rfl) (.one (.tmp ?_ rfl)))
  rfl

theorem hears_ev (b : Book) (l : List Int) (e : Int) (hn0 : e = 0 → 0 ≤ b.n ∧ b.n < 60) : Ev Try.prog 69 [.agg b.enc, ints l, I e] (I (if e = 0 then hearE b.n l else e)) := by
  refine Ev.intro fn69 ?_
  refine LWp.slLen 1 rfl fun hll => ?_
  simp only [List.length_map] at hll
  refine LWp.sx (gs := []) (hs := [.ice]) rfl ⟨⟨rfl, rfl⟩, trivial⟩ ?_
  generalize hR : (if e = 0 then hearE b.n l else e) = R
  refine LWp.cutX (fun e' : Int => (e' = 0 → 0 ≤ b.n ∧ b.n < 60) ∧ R = if e' = 0 then (if beyondB 0 (b.n - 1) l = true then 7 else 0) else e') (fun e' => el [(1, ints l), (2, I e'), (3, .pi b.enc)]) (fun _ => []) (fun _ => []) ?_ ?_
  · by_cases he : e = 0
    · subst he
      rw [if_pos rfl] at hR
      refine LWp.seq ?_
      refine LWp.x (gs := [(10, true)]) (hs := []) rfl (by simp) ?_
      refine LWp.ite rfl (fun hc => ?_) (fun hc => ?_)
      · simp only [List.length_map, gt_iff_lt, decide_eq_true_eq] at hc
        have hc' : 5 < l.length := by omega
        refine LWp.x (gs := []) (hs := []) rfl trivial ?_
        exact ⟨3, ⟨by simp, by rw [← hR]; simp [hearE, hc']⟩, Ent.el ⟨rfl, rfl, rfl, trivial⟩⟩
      · simp only [List.length_map, gt_iff_lt, decide_eq_false_iff_not] at hc
        have hc' : ¬ 5 < l.length := by omega
        exact LWp.skip ⟨0, ⟨hn0, by rw [← hR]; simp only [hearE, hc', if_false]; rfl⟩, Ent.el ⟨rfl, rfl, rfl, trivial⟩⟩
    · rw [if_neg he] at hR
      refine LWp.seq ?_
      refine LWp.x (gs := [(10, false)]) (hs := []) rfl (by simp [he]) ?_
      refine LWp.ite (b := false) rfl (fun hb => by cases hb) (fun _ => ?_)
      exact LWp.skip ⟨e, ⟨hn0, by rw [if_neg he, hR]⟩, Ent.el ⟨rfl, rfl, rfl, trivial⟩⟩
  rintro e' ⟨hn1, hR⟩
  refine LWp.seq (LWp.seq ?_)
  refine LWp.x (gs := []) (hs := []) rfl trivial ?_
  refine LWp.blockT (fun _ : Unit => True) (fun _ => el [(2, I R)]) (fun _ => []) (fun _ => []) ?_ ?_
  · refine LWp.loopN (X := Nat × Int) (fun x => x.1 ≤ l.length ∧ (x.2 = 0 → 0 ≤ b.n ∧ b.n < 60) ∧ R = if x.2 = 0 then (if beyondB 0 (b.n - 1) (l.drop x.1) = true then 7 else 0) else x.2) (fun x => el [(1, ints l), (2, I x.2), (3, .pi b.enc), (7, I x.1)]) (fun _ => []) (fun _ => []) (fun x => l.length - x.1) (0, e') ⟨by simp, hn1, hR⟩
      (Ent.el ⟨rfl, rfl, rfl, rfl, trivial⟩) ?_
    rintro ⟨k, e⟩ ⟨hk, hnn, hi⟩
    simp only at hk hnn hi ⊢
    refine LWp.seq (LWp.seq ?_)
    by_cases hc : k < l.length
    · obtain ⟨n, hn⟩ := ex_get hc
      rw [drop_cons hn, beyondB_cons] at hi
      refine LWp.x (gs := [(19, true)]) (hs := []) rfl (by simp [hc]) ?_
      refine LWp.ite rfl (fun hb => ?_) (fun hb => ?_)
      · simp only [beq_iff_eq] at hb
        subst hb
        rw [if_pos rfl] at hi
        refine LWp.skip (LWp.seq (LWp.block (LWp.seq ?_)))
        obtain ⟨hb0, hb1⟩ := hnn rfl
        refine LWp.dd (gs := []) (hs := [.cells [I n], .ret (B (decide (0 ≤ n) && decide (n ≤ b.n - 1)))]) hmix rfl (by kernel_rfl) ⟨⟨by omega, by simp [hn]⟩, by omega, in_ev _ 0 _, trivial⟩ ?_
        refine LWp.ite rfl (fun hd => ?_) (fun hd => ?_)
        · rw [inB_not] at hd
          rw [hd] at hi
          refine LWp.x (gs := []) (hs := []) rfl trivial ?_
          refine LWp.x (gs := []) (hs := []) rfl ⟨by omega, trivial⟩ ?_
          refine ⟨(k + 1, 7), ⟨hc, by simp, ?_⟩, by simp only; omega, Ent.el ⟨rfl, rfl, rfl, rfl, trivial⟩⟩
          rw [hi]; rfl
        · rw [inB_not] at hd
          rw [hd, Bool.false_or] at hi
          refine LWp.skip ?_
          refine LWp.x (gs := []) (hs := []) rfl ⟨by omega, trivial⟩ ?_
          exact ⟨(k + 1, 0), ⟨hc, hnn, by rw [hi]; rfl⟩, by simp only; omega, Ent.el ⟨rfl, rfl, rfl, rfl, trivial⟩⟩
      · simp only [beq_eq_false_iff_ne, ne_eq] at hb
        rw [if_neg hb] at hi
        exact LWp.exit ⟨(), trivial, Ent.el ⟨by rw [hi]; rfl, trivial⟩⟩
    · rw [drop_nil hc] at hi
      have : R = e := by
        rw [hi]
        split
        · rename_i h; rw [h]; rfl
        · rfl
      refine LWp.x (gs := [(19, false)]) (hs := []) rfl (by simp [hc]) ?_
      refine LWp.ite (b := false) rfl (fun hb => by cases hb) (fun _ => ?_)
      exact LWp.exit ⟨(), trivial, Ent.el ⟨by rw [this]; rfl, trivial⟩⟩
  · intro _ _
    refine LWp.sx (gs := []) (hs := []) rfl trivial ?_
    refine LWp.ret (retT (.inr rfl) (.one (.tmp ?_ rfl)))
    rfl

/-- The number of a sound string. -/
def codeI (l : List Int) : Int := l.foldl (fun n v => n * 5 + v + 1) 0
theorem codeI_bound {l : List Int} (hv : ∀ v ∈ l, 0 ≤ v ∧ v < 64) : ∀ k, 0 ≤ codeI (l.take k) ∧ codeI (l.take k) ≤ 70 ^ k := by
  intro k
  induction k with
  | zero => simp [codeI]
  | succ k ih =>
    rw [List.take_add_one]
    cases hx : l[k]? with
    | none =>
      simp only [Option.toList_none, List.append_nil]
      refine ⟨ih.1, ?_⟩
      rw [Int.pow_succ]; omega
    | some v =>
      have := hv v (List.mem_of_getElem? hx)
      simp only [Option.toList_some, codeI, List.foldl_append, List.foldl_cons, List.foldl_nil]
      simp only [codeI] at ih
      rw [Int.pow_succ]
      have : (1 : Int) ≤ 70 ^ k := Int.pow_pos (by omega)
      omega
theorem code_ev (l : List Int) (hh : HOK l) : Ev Try.prog 70 [ints l] (I (codeI l)) := by
  obtain ⟨h5, hv⟩ := hh
  have hb := codeI_bound hv
  refine Ev.intro fn70 ?_
  refine LWp.sx (gs := []) (hs := []) rfl trivial ?_
  refine LWp.sx (gs := []) (hs := []) rfl trivial ?_
  refine LWp.seq (LWp.seq ?_)
  refine LWp.x (gs := []) (hs := []) rfl trivial ?_
  refine LWp.blockT (fun _ : Unit => True) (fun _ => el [(3, I (codeI l))]) (fun _ => []) (fun _ => []) ?_ ?_
  · refine LWp.loopN (fun k : Nat => k ≤ l.length) (fun k => el [(0, ints l), (3, I (codeI (l.take k))), (4, I k)]) (fun _ => []) (fun _ => []) (fun k => l.length - k) 0 (by omega)
      (Ent.el ⟨rfl, rfl, rfl, trivial⟩) ?_
    intro k hk
    obtain ⟨b0, b1⟩ := hb k
    have hp : (70 : Int) ^ k ≤ 70 ^ 5 := by
      have : (70 : Nat) ^ k ≤ 70 ^ 5 := Nat.pow_le_pow_right (by omega) (by omega)
      have e : (70 : Int) ^ k = ((70 ^ k : Nat) : Int) := by simp
      rw [e]; omega
    refine LWp.seq (LWp.seq ?_)
    refine LWp.x (gs := []) (hs := []) rfl trivial ?_
    refine LWp.ite rfl (fun hc => ?_) (fun hc => ?_)
    · simp only [List.length_map, decide_eq_true_eq, Int.ofNat_lt] at hc
      obtain ⟨v, hx⟩ := ex_get hc
      have hvv := hv v (List.mem_of_getElem? hx)
      refine LWp.skip (LWp.seq (LWp.block ?_))
      refine LWp.x (gs := []) (hs := [.cells [I v]]) rfl ⟨by omega, ⟨by omega, by simp [hx]⟩, by omega, by omega, trivial⟩ ?_
      refine LWp.x (gs := []) (hs := []) rfl ⟨by omega, trivial⟩ ?_
      refine ⟨k + 1, hc, by omega, Ent.el ⟨rfl, ?_, rfl, trivial⟩⟩
      show I _ = I _
      rw [List.take_add_one, hx]
      simp [codeI, List.foldl_append]
    · simp only [List.length_map, decide_eq_false_iff_not, Int.ofNat_lt] at hc
      have e : l.take k = l := List.take_of_length_le (by omega)
      rw [e]
      exact LWp.exit ⟨(), trivial, Ent.el ⟨rfl, trivial⟩⟩
  · intro _ _
    refine LWp.sx (gs := []) (hs := []) rfl trivial ?_
    refine LWp.ret (retT (.inr rfl) (.one (.tmp ?_ rfl)))
    rfl

/-- The sound string of a number. -/
def heardF : Nat → Nat → List Int
  | 0, _ => []
  | f + 1, c => if c = 0 then [] else heardF f (c / 5) ++ [((c % 5 : Nat) : Int) - 1]
theorem heardF_len : ∀ f c, (heardF f c).length ≤ f
  | 0, c => by simp [heardF]
  | f + 1, c => by
    simp only [heardF]
    split
    · simp
    · have := heardF_len f (c / 5); simp; omega
theorem heard_ev : ∀ (f c : Nat), f ≤ 10 → c < 5 ^ f → Ev Try.prog 65 [I c] (.lin 3 1 ((heardF f c).map fun x => [I x])) := by
  intro f
  induction f with
  | zero =>
    intro c _ hc
    have : c = 0 := by simpa using hc
    subst this
    refine Ev.intro fn65 ?_
    refine LWp.sx (gs := []) (hs := []) rfl trivial ?_
    refine LWp.seq (LWp.seq ?_)
    refine LWp.x (gs := []) (hs := []) rfl trivial ?_
    refine LWp.ite (b := true) rfl (fun _ => ?_) (fun h => by cases h)
    refine LWp.sx (gs := []) (hs := []) rfl trivial ?_
    exact LWp.ent (Ent.nilLin (t := 2) 3 1 rfl) (LWp.ret (retT (.inr rfl) (.lin rfl rfl)))
  | succ f ih =>
    intro c hf hc
    have hp : 5 ^ f ≤ 5 ^ 10 := Nat.pow_le_pow_right (by omega) (by omega)
    rw [Nat.pow_succ] at hc
    refine Ev.intro fn65 ?_
    refine LWp.sx (gs := []) (hs := []) rfl trivial ?_
    refine LWp.seq (LWp.seq ?_)
    refine LWp.x (gs := []) (hs := []) rfl trivial ?_
    refine LWp.ite rfl (fun hb => ?_) (fun hb => ?_)
    · simp only [beq_iff_eq] at hb
      have hb' : c = 0 := by omega
      refine LWp.sx (gs := []) (hs := []) rfl trivial ?_
      refine LWp.ent (Ent.nilLin (t := 2) 3 1 rfl) (LWp.ret (retT (.inr rfl) (.lin ?_ rfl)))
      simp only [heardF, hb', if_true]; rfl
    · simp only [beq_eq_false_iff_ne, ne_eq] at hb
      have hb' : ¬ c = 0 := by omega
      have hl := heardF_len f (c / 5)
      refine LWp.skip ?_
      refine LWp.sx (gs := []) (hs := [.ret (.lin 3 1 ((heardF f (c / 5)).map fun x => [I x])), .ice]) rfl ⟨⟨by omega, by omega, by omega⟩, ih (c / 5) (by omega) (by omega), ⟨by omega, by omega⟩, ⟨by omega, by omega⟩, rfl, ⟨by simp [chunk]; omega, by simp [chunk]; omega⟩, trivial⟩ ?_
      refine LWp.ret (retT (.inr rfl) (.lin ?_ rfl))
      simp only [heardF, hb', if_false, List.map_append]; rfl

theorem settled_ev (a b : Int) : Ev Try.prog 72 [I a, I b] (I (if a = b then 1 else if a = 0 then 2 else 0)) := by
  refine Ev.intro fn72 ?_
  refine LWp.sx (gs := []) (hs := []) rfl trivial ?_
  refine LWp.seq (LWp.seq ?_)
  refine LWp.x (gs := []) (hs := []) rfl trivial ?_
  refine LWp.blockT (fun _ : Unit => ¬ a = b ∧ ¬ a = 0) (fun _ => el []) (fun _ => []) (fun _ => []) ?_ ?_
  · refine LWp.sx (gs := []) (hs := []) rfl trivial ?_
    refine LWp.ite rfl (fun h => ?_) (fun h => ?_)
    · simp only [beq_iff_eq] at h
      refine LWp.sx (gs := []) (hs := []) rfl trivial ?_
      refine LWp.ret (retT (.inr rfl) (.one (.tmp ?_ rfl)))
      rw [if_pos h]; rfl
    · simp only [beq_eq_false_iff_ne, ne_eq] at h
      refine LWp.sx (gs := []) (hs := []) rfl trivial ?_
      refine LWp.ite rfl (fun g => ?_) (fun g => ?_)
      · simp only [beq_iff_eq] at g
        refine LWp.sx (gs := []) (hs := []) rfl trivial ?_
        refine LWp.ret (retT (.inr rfl) (.one (.tmp ?_ rfl)))
        rw [if_neg h, if_pos g]; rfl
      · simp only [beq_eq_false_iff_ne, ne_eq] at g
        exact LWp.skip ⟨(), ⟨h, g⟩, Ent.el trivial⟩
  · rintro _ ⟨h, g⟩
    refine LWp.sx (gs := []) (hs := []) rfl trivial ?_
    refine LWp.ret (retT (.inr rfl) (.one (.tmp ?_ rfl)))
    rw [if_neg h, if_neg g]; rfl

def risingF (below : Int) : List Int → Int → Bool
  | [], _ => true
  | n :: l, last => decide (last < n) && decide (n < below) && risingF below l n
theorem rising_ev (l : List Int) (m : Int) : Ev Try.prog 42 [ints l, I m] (B (risingF m l (-1))) := by
  refine Ev.intro fn42 ?_
  refine LWp.slLen 0 rfl fun hll => ?_
  simp only [List.length_map] at hll
  refine LWp.sx (gs := []) (hs := []) rfl trivial ?_
  refine LWp.sx (gs := []) (hs := []) rfl trivial ?_
  refine LWp.seq (LWp.seq ?_)
  refine LWp.x (gs := []) (hs := []) rfl trivial ?_
  refine LWp.blockT (fun _ : Unit => risingF m l (-1) = true) (fun _ => el []) (fun _ => []) (fun _ => []) ?_ ?_
  · refine LWp.loopN (X := Nat × Int) (fun x => x.1 ≤ l.length ∧ risingF m l (-1) = risingF m (l.drop x.1) x.2) (fun x => el [(0, ints l), (1, I m), (5, I x.2), (6, I x.1)]) (fun _ => []) (fun _ => []) (fun x => l.length - x.1) (0, -1) ⟨by simp, rfl⟩
      (Ent.el ⟨rfl, rfl, rfl, rfl, trivial⟩) ?_
    rintro ⟨k, last⟩ ⟨hk, hi⟩
    simp only at hk hi ⊢
    refine LWp.seq (LWp.seq ?_)
    refine LWp.x (gs := []) (hs := []) rfl trivial ?_
    refine LWp.ite rfl (fun hc => ?_) (fun hc => ?_)
    · simp only [List.length_map, decide_eq_true_eq, Int.ofNat_lt] at hc
      obtain ⟨n, hn⟩ := ex_get hc
      rw [drop_cons hn, risingF] at hi
      refine LWp.skip (LWp.seq (LWp.block ?_))
      refine LWp.cutX (fun _ : Unit => last < n ∧ n < m) (fun _ => el [(0, ints l), (1, I m), (6, I k)]) (fun _ => []) (fun _ => []) ?_ ?_
      · have ret : (decide (last < n) && decide (n < m)) = false → ∀ env : Env, LWp Try.prog none 31 (.seq (.ops [⟨some 4, none, .mov (.const (.bool false))⟩]) .ret) (fun e env H D => e = .ret ∧ retP Try.prog [.tmp 4] (B (risingF m l (-1))) .ret env H D) env [] [] := by
          intro h env
          refine LWp.sx (gs := []) (hs := []) rfl trivial ?_
          refine LWp.ret ⟨rfl, retT (.inr rfl) (.one (.tmp ?_ rfl))⟩
          rw [hi, h]; rfl
        refine LWp.seq ?_
        by_cases h1 : n ≤ last
        · refine LWp.x (gs := [(19, true)]) (hs := [.cells [I n]]) rfl (by simp [hn, h1]) ?_
          refine LWp.ite (b := true) rfl (fun _ => ?_) (fun h => by cases h)
          refine LWp.mono (ret ?_ _) (by rintro e env H D ⟨rfl, h⟩; exact h)
          have : ¬ last < n := by omega
          simp [this]
        · refine LWp.x (gs := [(19, false)]) (hs := [.cells [I n], .cells [I n]]) rfl (by simp [h1, (List.getElem?_eq_some_iff.1 hn).2, hc]; try omega) ?_
          refine LWp.ite rfl (fun h2 => ?_) (fun h2 => ?_)
          · simp only [ge_iff_le, decide_eq_true_eq] at h2
            refine LWp.mono (ret ?_ _) (by rintro e env H D ⟨rfl, h⟩; exact h)
            have : ¬ n < m := by omega
            simp [this]
          · simp only [ge_iff_le, decide_eq_false_iff_not] at h2
            exact LWp.skip ⟨(), ⟨by omega, by omega⟩, Ent.el ⟨rfl, rfl, rfl, trivial⟩⟩
      rintro _ ⟨h1, h2⟩
      refine LWp.x (gs := []) (hs := [.cells [I n]]) rfl ⟨⟨by omega, by simp [hn]⟩, trivial⟩ ?_
      refine LWp.x (gs := []) (hs := []) rfl ⟨by omega, trivial⟩ ?_
      refine ⟨(k + 1, n), ⟨hc, ?_⟩, by simp only; omega, Ent.el ⟨rfl, rfl, rfl, rfl, trivial⟩⟩
      rw [hi, decide_eq_true h1, decide_eq_true h2]; rfl
    · simp only [List.length_map, decide_eq_false_iff_not, Int.ofNat_lt] at hc
      exact LWp.exit ⟨(), by rw [hi, drop_nil hc]; rfl, Ent.el trivial⟩
  · intro _ h
    refine LWp.sx (gs := []) (hs := []) rfl trivial ?_
    refine LWp.ret (retT (.inr rfl) (.one (.tmp ?_ rfl)))
    rw [h]; rfl

def othersL (n : Nat) (l : List Int) : List Int := ((List.range n).filter fun (k : Nat) => !l.any (· == (k : Int))).map fun (k : Nat) => (k : Int)
theorem othersL_succ (n : Nat) (l : List Int) : othersL (n + 1) l = othersL n l ++ (if l.any (· == (n : Int)) = true then [] else [(n : Int)]) := by
  unfold othersL
  rw [List.range_succ, List.filter_append, List.map_append]
  congr 1
  cases hg : l.any (· == (n : Int)) <;> simp [hg]
theorem othersL_len (n : Nat) (l : List Int) : (othersL n l).length ≤ n := by
  unfold othersL
  rw [List.length_map]
  exact Nat.le_trans (List.length_filter_le _ _) (by simp)
theorem others_ev (b : Book) (hs : b.ss.length ≤ 1000) (l : List Int) : Ev Try.prog 43 [.agg b.enc, ints l] (ints (othersL b.ss.length l)) := by
  refine Ev.freeze (T := 3) ?_
  have hln : (b.ss.map Spelling.enc).length = b.ss.length := by simp
  refine Ev.intro fn43 ?_
  refine LWp.sx (gs := []) (hs := [.ice]) rfl ⟨⟨rfl, rfl⟩, trivial⟩ ?_
  refine LWp.sx (gs := []) (hs := []) rfl trivial ?_
  refine LWp.seq (LWp.seq ?_)
  refine LWp.x (gs := []) (hs := []) rfl trivial ?_
  refine LWp.blockT (fun _ : Unit => True) (fun _ => el [(5, .lin 3 1 ((othersL b.ss.length l).map fun x => [I x]))]) (fun _ => []) (fun _ => []) ?_ ?_
  · refine LWp.loopN (fun k : Nat => k ≤ b.ss.length) (fun k => el [(1, ints l), (2, .pi b.enc), (5, .lin 3 1 ((othersL k l).map fun x => [I x])), (6, I k)]) (fun _ => []) (fun _ => []) (fun k => b.ss.length - k) 0 (by omega)
      (Ent.trans (Ent.nilLin (t := 5) 3 1 rfl) (Ent.el ⟨rfl, rfl, rfl, rfl, trivial⟩)) ?_
    intro k hk
    have hol := othersL_len k l
    refine LWp.seq (LWp.seq ?_)
    refine LWp.x (gs := []) (hs := []) rfl trivial ?_
    refine LWp.ite rfl (fun hc => ?_) (fun hc => ?_)
    · simp only [List.length_map, decide_eq_true_eq, Int.ofNat_lt] at hc
      have hsu := othersL_succ k l
      refine LWp.skip (LWp.seq (LWp.block ?_))
      refine LWp.seq ?_
      refine LWp.x (gs := []) (hs := [.ret (B (l.any (· == (k : Int))))]) rfl ⟨has_ev l k, trivial⟩ ?_
      refine LWp.ite rfl (fun hd => ?_) (fun hd => ?_)
      · simp only [Bool.not_eq_true'] at hd
        rw [hd] at hsu
        refine LWp.x (gs := []) (hs := [.ice]) rfl ⟨rfl, ⟨by simp [chunk]; omega, by simp [chunk]; omega⟩, trivial⟩ ?_
        refine LWp.x (gs := []) (hs := []) rfl ⟨by omega, trivial⟩ ?_
        refine ⟨k + 1, hc, by omega, Ent.el ⟨rfl, rfl, ?_, rfl, trivial⟩⟩
        show AV.lin _ _ _ = _
        rw [hsu, List.map_append]; rfl
      · simp only [Bool.not_eq_false'] at hd
        rw [hd] at hsu
        refine LWp.skip ?_
        refine LWp.x (gs := []) (hs := []) rfl ⟨by omega, trivial⟩ ?_
        refine ⟨k + 1, hc, by omega, Ent.el ⟨rfl, rfl, ?_, rfl, trivial⟩⟩
        show AV.lin _ _ _ = _
        rw [hsu, List.map_append]; simp
    · simp only [List.length_map, decide_eq_false_iff_not, Int.ofNat_lt] at hc
      have : k = b.ss.length := by omega
      subst this
      exact LWp.exit ⟨(), trivial, Ent.el ⟨rfl, trivial⟩⟩
  · intro _ _
    refine LWp.sx (gs := []) (hs := []) rfl trivial ?_
    exact LWp.ret (retT (.inr rfl) (.lin rfl rfl))
end Go.Px

