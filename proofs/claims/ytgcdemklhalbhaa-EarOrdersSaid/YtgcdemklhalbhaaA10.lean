/- Part 10 of the proof of the statements of this seat (a logic of pure contracts, the functions lowered, their contracts, the statements). No conditions. -/
import Derived.Test.YtgcdemklhalbhaaA9
namespace Go.Px
open Go.Proofs

/-- The keys of what is known are different. -/
def KND (es : Kn) : Prop := (es.map (·.1)).Nodup
theorem kfind_none {es : Kn} {h : List Int} : kfind es h = none ↔ h ∉ es.map (·.1) := by
  induction es with
  | nil => simp [kfind]
  | cons e es ih =>
    obtain ⟨g, u⟩ := e
    simp only [kfind, List.map_cons, List.mem_cons, not_or]
    by_cases hg : g = h
    · simp [hg]
    · rw [if_neg hg]
      simp only [Option.map_eq_none_iff, ih]
      exact ⟨fun h1 => ⟨fun e => hg e.symm, h1⟩, fun h1 => h1.2⟩
theorem kval_mem {es : Kn} (hn : KND es) {h : List Int} {u : Nat} (hm : (h, u) ∈ es) : kval es h = u := by
  unfold kval
  induction es with
  | nil => cases hm
  | cons e es ih =>
    obtain ⟨g, v⟩ := e
    simp only [KND, List.map_cons, List.nodup_cons] at hn
    simp only [kfind]
    by_cases hg : g = h
    · rw [if_pos hg]
      rcases List.mem_cons.1 hm with hm | hm
      · cases hm; rfl
      · exact absurd (List.mem_map.2 ⟨_, hm, hg.symm⟩) hn.1
    · rw [if_neg hg]
      rcases List.mem_cons.1 hm with hm | hm
      · cases hm; exact absurd rfl hg
      · have := ih hn.2 hm
        cases hk : kfind es h with
        | none => rw [hk] at this; exact this
        | some p => rw [hk] at this; exact this
theorem kval_not {es : Kn} {h : List Int} (hm : h ∉ es.map (·.1)) : kval es h = 0 := by
  unfold kval
  rw [kfind_none.2 hm]
theorem kput_keys {es : Kn} {h : List Int} {bit : Nat} : (kput es h bit).map (·.1) = if h ∈ es.map (·.1) then es.map (·.1) else es.map (·.1) ++ [h] := by
  unfold kput
  have hs := kfind_spec es h
  cases hf : kfind es h with
  | none =>
    rw [if_neg (kfind_none.1 hf)]
    simp
  | some p =>
    obtain ⟨j, u⟩ := p
    rw [hf] at hs
    have hm : h ∈ es.map (·.1) := List.mem_map.2 ⟨_, List.mem_of_getElem? hs, rfl⟩
    rw [if_pos hm, List.map_set]
    apply List.ext_getElem?
    intro i
    rw [List.getElem?_set]
    by_cases e : j = i
    · subst e
      have hlt := (List.getElem?_eq_some_iff.1 hs).1
      rw [if_pos rfl, if_pos (by simpa using hlt), List.getElem?_map, hs]; rfl
    · rw [if_neg e]
theorem kput_nd {es : Kn} (hn : KND es) (h : List Int) (bit : Nat) : KND (kput es h bit) := by
  unfold KND
  rw [kput_keys]
  split
  · exact hn
  · rename_i hm
    rw [List.nodup_append]
    exact ⟨hn, by simp, fun a ha b hb e => by simp only [List.mem_singleton] at hb; subst hb e; exact hm ha⟩
theorem kval_kput {es : Kn} (hn : KND es) (h g : List Int) (bit : Nat) : kval (kput es h bit) g = if g = h then kval es h ||| bit else kval es g := by
  have hs := kfind_spec es h
  have hnd := kput_nd hn h bit
  have hput : kput es h bit = match kfind es h with | none => es ++ [(h, bit)] | some (j, u) => es.set j (h, u ||| bit) := rfl
  cases hf : kfind es h with
  | none =>
    have hm := kfind_none.1 hf
    rw [hf] at hput
    simp only at hput
    by_cases hg : g = h
    · subst hg
      rw [if_pos rfl, kval_not hm, Nat.zero_or]
      exact kval_mem hnd (by rw [hput]; simp)
    · rw [if_neg hg]
      by_cases hgm : g ∈ es.map (·.1)
      · obtain ⟨⟨g', u⟩, hmem, rfl⟩ := List.mem_map.1 hgm
        rw [kval_mem hn hmem]
        exact kval_mem hnd (by rw [hput]; simp [hmem])
      · rw [kval_not hgm, kval_not]
        rw [hput]
        simp only [List.map_append, List.map_cons, List.map_nil, List.mem_append, List.mem_singleton, not_or]
        exact ⟨hgm, hg⟩
  | some p =>
    obtain ⟨j, u⟩ := p
    rw [hf] at hs hput
    simp only at hs hput
    have hmem := List.mem_of_getElem? hs
    have hlt := (List.getElem?_eq_some_iff.1 hs).1
    by_cases hg : g = h
    · subst hg
      rw [if_pos rfl, kval_mem hn hmem]
      refine kval_mem hnd ?_
      rw [hput]
      exact List.mem_iff_getElem?.2 ⟨j, by rw [List.getElem?_set, if_pos rfl, if_pos hlt]⟩
    · rw [if_neg hg]
      by_cases hgm : g ∈ es.map (·.1)
      · obtain ⟨⟨g', v⟩, hmem2, rfl⟩ := List.mem_map.1 hgm
        rw [kval_mem hn hmem2]
        refine kval_mem hnd ?_
        rw [hput]
        obtain ⟨i, hi⟩ := List.mem_iff_getElem?.1 hmem2
        refine List.mem_iff_getElem?.2 ⟨i, ?_⟩
        rw [List.getElem?_set, if_neg (fun e => by subst e; rw [hs] at hi; cases hi; exact hg rfl), hi]
      · rw [kval_not hgm, kval_not]
        rw [kput_keys]
        have : h ∈ es.map (·.1) := List.mem_map.2 ⟨_, hmem, rfl⟩
        rw [if_pos this]; exact hgm
theorem kfold_nd (bit : Nat) : ∀ (l : List (List Int)) (es : Kn), KND es → KND (l.foldl (fun es h => kput es h bit) es)
  | [], _, hn => hn
  | h :: l, _es, hn => kfold_nd bit l _ (kput_nd hn h bit)
theorem kval_kfold (bit : Nat) : ∀ (l : List (List Int)) (es : Kn) (g : List Int), KND es → kval (l.foldl (fun es h => kput es h bit) es) g = if g ∈ l then kval es g ||| bit else kval es g
  | [], es, g, _ => by simp
  | h :: l, es, g, hn => by
    simp only [List.foldl_cons, List.mem_cons]
    rw [kval_kfold bit l _ g (kput_nd hn h bit), kval_kput hn]
    by_cases hg : g = h
    · subst hg
      simp only [if_true, true_or]
      split
      · rw [Nat.or_assoc, Nat.or_self]
      · rfl
    · simp [hg]
theorem knownF_nd {n : Nat} : ∀ (sps : List (List Letter)) (i : Nat) (es : Kn), KND es → KND (knownF n sps i es)
  | [], _, _, hn => hn
  | _xs :: sps, i, _es, hn => knownF_nd sps (i + 1) _ (kfold_nd _ _ _ hn)
theorem testBit_or_pow (u i k : Nat) : (u ||| 2 ^ i).testBit k = (u.testBit k || decide (i = k)) := by
  rw [Nat.testBit_or, Nat.testBit_two_pow]
theorem knownF_bit {n : Nat} : ∀ (sps : List (List Letter)) (i : Nat) (es : Kn) (g : List Int) (k : Nat), KND es →
    ((kval (knownF n sps i es) g).testBit k = true ↔ (kval es g).testBit k = true ∨ ∃ xs, i ≤ k ∧ sps[k - i]? = some xs ∧ g ∈ hearL n xs [])
  | [], i, es, g, k, _ => by simp [knownF]
  | xs :: sps, i, es, g, k, hn => by
    simp only [knownF]
    rw [knownF_bit sps (i + 1) _ g k (kfold_nd _ _ _ hn), kval_kfold _ _ _ _ hn]
    have hbit : ((if g ∈ hearL n xs [] then kval es g ||| 2 ^ i else kval es g).testBit k = true) ↔ ((kval es g).testBit k = true ∨ (i = k ∧ g ∈ hearL n xs [])) := by
      split
      · rename_i hm
        rw [testBit_or_pow]; simp [hm]
      · rename_i hm; simp [hm]
    rw [hbit]
    constructor
    · rintro ((h | ⟨rfl, h⟩) | ⟨ys, h1, h2, h3⟩)
      · exact .inl h
      · exact .inr ⟨xs, Nat.le_refl _, by simp, h⟩
      · refine .inr ⟨ys, by omega, ?_, h3⟩
        rw [show k - i = (k - (i + 1)) + 1 by omega]; simpa using h2
    · rintro (h | ⟨ys, h1, h2, h3⟩)
      · exact .inl (.inl h)
      · by_cases e : i = k
        · subst e
          simp only [Nat.sub_self, List.getElem?_cons_zero, Option.some.injEq] at h2
          subst h2
          exact .inl (.inr ⟨rfl, h3⟩)
        · refine .inr ⟨ys, by omega, ?_, h3⟩
          rw [show k - i = (k - (i + 1)) + 1 by omega] at h2; simpa using h2

/-- What a spelling of a book can be. -/
def hearS (b : Book) (j : Nat) : List (List Int) := match b.ss[j]? with
  | some s => hearL b.n.toNat (spLetters b s) []
  | none => []
theorem known_bit (b : Book) (g : List Int) (k : Nat) : (kval (knownOf b) g).testBit k = true ↔ g ∈ hearS b k := by
  unfold knownOf
  rw [knownF_bit _ 0 [] g k (by simp [KND])]
  have h0 : kval ([] : Kn) g = 0 := rfl
  rw [h0]
  simp only [Nat.zero_testBit, Bool.false_eq_true, false_or, Nat.zero_le, true_and, Nat.sub_zero, spsOf, List.getElem?_map, Option.map_eq_some_iff, hearS]
  cases b.ss[k]? with
  | none => simp
  | some s => simp
theorem known_nd (b : Book) : KND (knownOf b) := knownF_nd _ 0 [] (by simp [KND])
theorem known_key {b : Book} {e : List Int × Nat} (he : e ∈ knownOf b) : ∀ k, e.2.testBit k = true ↔ e.1 ∈ hearS b k := by
  intro k
  rw [← known_bit, kval_mem (known_nd b) (h := e.1) (u := e.2) he]
theorem known_has {b : Book} {g : List Int} {k : Nat} (h : g ∈ hearS b k) : ∃ u, (g, u) ∈ knownOf b := by
  rw [← known_bit] at h
  apply Classical.byContradiction
  intro hn
  have : g ∉ (knownOf b).map (·.1) := fun hm => by
    obtain ⟨⟨g', u⟩, hm2, rfl⟩ := List.mem_map.1 hm
    exact hn ⟨u, hm2⟩
  rw [kval_not this] at h
  simp at h
end Go.Px

