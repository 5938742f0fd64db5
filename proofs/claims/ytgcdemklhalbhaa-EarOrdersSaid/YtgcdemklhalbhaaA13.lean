/- Part 13 of the proof of the statements of this seat (a logic of pure contracts, the functions lowered, their contracts, the statements). No conditions. -/
import Derived.Test.YtgcdemklhalbhaaA12
namespace Go.Px
open Go.Proofs

abbrev natI (c : List Nat) : List Int := c.map fun (n : Nat) => (n : Int)
abbrev lists (l : List (List Nat)) : AV := .sl 1 (l.map fun c => [ints (natI c)])
/-- Where the next number begins. -/
def loC (c : List Nat) : Nat := match c.getLast? with | none => 0 | some v => v + 1
def nextC (n : Nat) (c : List Nat) : List (List Nat) := (List.range' (loC c) (n - loC c)).map fun v => c ++ [v]
def chN (n : Nat) : Nat → List (List Nat)
  | 0 => [[]]
  | m + 1 => (chN n m).flatMap (nextC n)
theorem chN_len (n : Nat) : ∀ m, ∀ c ∈ chN n m, c.length = m
  | 0, c, h => by simp [chN] at h; subst h; rfl
  | m + 1, c, h => by
    simp only [chN, List.mem_flatMap, nextC, List.mem_map] at h
    obtain ⟨d, hd, v, _, rfl⟩ := h
    simp [chN_len n m d hd]
theorem nextC_len (n : Nat) (c : List Nat) : (nextC n c).length ≤ n := by simp [nextC]
theorem chN_size (n : Nat) : ∀ m, (chN n m).length ≤ n ^ m
  | 0 => by simp [chN]
  | m + 1 => by
    have h1 := chN_size n m
    have h2 := length_flatMap_le (f := nextC n) (l := chN n m) (fun c _ => nextC_len n c)
    have h3 := Nat.mul_le_mul_right n h1
    rw [Nat.pow_succ]
    simp only [chN]
    omega
theorem lt_of_chN (n : Nat) : ∀ m, ∀ c ∈ chN n m, ∀ v ∈ c, v < n
  | 0, c, h => by simp [chN] at h; subst h; simp
  | m + 1, c, h => by
    simp only [chN, List.mem_flatMap, nextC, List.mem_map, List.mem_range'_1] at h
    obtain ⟨d, hd, v, hv, rfl⟩ := h
    intro u hu
    rcases List.mem_append.1 hu with hu | hu
    · exact lt_of_chN n m d hd u hu
    · simp only [List.mem_singleton] at hu; omega

theorem choices_ev (n m : Nat) (hn : n ≤ 6) (hm : m ≤ 6) : Ev Try.prog 76 [I n, I m] (lists (chN n m)) := by
  refine Ev.freeze (T := 32) ?_
  have hsz : ∀ k, k ≤ 6 → (chN n k).length ≤ 46656 := by
    intro k hk
    have h1 := chN_size n k
    have h2 : n ^ k ≤ 6 ^ k := Nat.pow_le_pow_left hn k
    have h3 : 6 ^ k ≤ 6 ^ 6 := Nat.pow_le_pow_right (by omega) hk
    omega
  refine Ev.intro fn76 ?_
  refine LWp.sx (gs := []) (hs := []) rfl trivial ?_
  refine LWp.sx (gs := []) (hs := [.lin]) rfl ⟨rfl, trivial⟩ ?_
  refine LWp.ent (Ent.linSub (t := 5) [[ints []]] rfl ⟨⟨.nil 1, trivial⟩, trivial⟩) ?_
  refine LWp.seq (LWp.seq ?_)
  refine LWp.x (gs := []) (hs := []) rfl trivial ?_
  refine LWp.blockT (fun _ : Unit => True) (fun _ => el [(5, .lin 32 1 ((chN n m).map fun c => [ints (natI c)]))]) (fun _ => []) (fun _ => []) ?_ ?_
  · refine LWp.loopN (fun i : Nat => i ≤ m) (fun i => el [(0, I n), (1, I m), (5, .lin 32 1 ((chN n i).map fun c => [ints (natI c)])), (6, I i)]) (fun _ => []) (fun _ => []) (fun i => m - i) 0 (by omega)
      (Ent.el ⟨rfl, rfl, rfl, rfl, trivial⟩) ?_
    intro i hi
    refine LWp.seq (LWp.seq ?_)
    refine LWp.x (gs := []) (hs := []) rfl trivial ?_
    refine LWp.ite rfl (fun hc => ?_) (fun hc => ?_)
    · simp only [decide_eq_true_eq, Int.ofNat_lt] at hc
      have hlC := chN_len n i
      have hltC := lt_of_chN n i
      have hsC := hsz i (by omega)
      have hsC1 := hsz (i + 1) (by omega)
      have hnx : chN n (i + 1) = (chN n i).flatMap (nextC n) := rfl
      generalize chN n i = C at hlC hltC hsC hnx
      refine LWp.skip ?_
      refine LWp.ent (Ent.freezeLin (t := 5) rfl) ?_
      refine LWp.blockX (fun _ : Unit => True) (fun _ => el [(0, I n), (1, I m), (5, .lin 32 1 ((chN n (i + 1)).map fun c => [ints (natI c)])), (6, I i)]) (fun _ => []) (fun _ => []) ?_ ?_
      · refine LWp.sx (gs := []) (hs := []) rfl trivial ?_
        refine LWp.ent (Ent.nilLin (t := 7) 32 1 rfl) ?_
        refine LWp.seq (LWp.seq ?_)
        refine LWp.x (gs := []) (hs := []) rfl trivial ?_
        refine LWp.blockT (fun _ : Unit => True) (fun _ => el [(0, I n), (1, I m), (6, I i), (7, .lin 32 1 ((C.flatMap (nextC n)).map fun c => [ints (natI c)]))]) (fun _ => []) (fun _ => []) ?_ ?_
        · refine LWp.loopN (fun k : Nat => k ≤ C.length) (fun k => el [(0, I n), (1, I m), (5, lists C), (6, I i), (7, .lin 32 1 (((C.take k).flatMap (nextC n)).map fun c => [ints (natI c)])), (8, I k)]) (fun _ => []) (fun _ => []) (fun k => C.length - k) 0 (by omega)
            (Ent.el ⟨rfl, rfl, rfl, rfl, rfl, rfl, trivial⟩) ?_
          intro k hk
          refine LWp.seq (LWp.seq ?_)
          refine LWp.x (gs := []) (hs := []) rfl trivial ?_
          refine LWp.ite rfl (fun hd => ?_) (fun hd => ?_)
          · simp only [List.length_map, decide_eq_true_eq, Int.ofNat_lt] at hd
            obtain ⟨c, hx⟩ := ex_get hd
            have hcl := hlC c (List.mem_of_getElem? hx)
            have hclt := hltC c (List.mem_of_getElem? hx)
            have hst : (C.take (k + 1)).flatMap (nextC n) = (C.take k).flatMap (nextC n) ++ nextC n c := by
              rw [List.take_add_one, hx, List.flatMap_append]; simp
            have hle : ((C.take k).flatMap (nextC n)).length + (nextC n c).length ≤ 46656 := by
              have h1 : C.flatMap (nextC n) = (C.take (k + 1)).flatMap (nextC n) ++ (C.drop (k + 1)).flatMap (nextC n) := by
                rw [← List.flatMap_append, List.take_append_drop]
              have h2 := congrArg List.length h1
              rw [← hnx, List.length_append, hst, List.length_append] at h2
              omega
            generalize (C.take k).flatMap (nextC n) = A at hst hle
            have hlo : loC c ≤ n := by
              unfold loC
              cases hg : c.getLast? with
              | none => simp
              | some v => have := hclt v (List.mem_of_getLast? hg); simp only; omega
            refine LWp.skip ?_
            refine LWp.blockX (fun _ : Unit => True) (fun _ => el [(0, I n), (1, I m), (5, lists C), (6, I i), (7, .lin 32 1 ((A ++ nextC n c).map fun c => [ints (natI c)])), (8, I k)]) (fun _ => []) (fun _ => []) ?_ ?_
            · refine LWp.sx (gs := []) (hs := []) rfl trivial ?_
              refine LWp.cutX (fun _ : Unit => True) (fun _ => el [(0, I n), (1, I m), (5, lists C), (6, I i), (7, .lin 32 1 (A.map fun c => [ints (natI c)])), (8, I k), (9, I (loC c))]) (fun _ => []) (fun _ => []) ?_ ?_
              · refine LWp.sx (gs := []) (hs := []) rfl trivial ?_
                refine LWp.ite rfl (fun he => ?_) (fun he => ?_)
                · simp only [gt_iff_lt, decide_eq_true_eq] at he
                  have hi0 : 0 < c.length := by omega
                  have hil : i - 1 < c.length := by omega
                  obtain ⟨v, hg⟩ := ex_get hil
                  have hlo' : loC c = v + 1 := by
                    unfold loC
                    rw [List.getLast?_eq_getElem?, hcl, hg]
                  have hv := hclt _ (List.mem_of_getElem? hg)
                  have hcg : (natI c)[i - 1]? = some ((v : Nat) : Int) := by
                    show (c.map _)[i - 1]? = _
                    rw [List.getElem?_map, hg]; rfl
                  have hit : ((i : Int) - 1).toNat = i - 1 := by omega
                  refine LWp.x (gs := []) (hs := [.cells [ints (natI c)], .cells [I v]]) rfl ⟨⟨by omega, by simp [hx]⟩, by omega, ⟨by omega, by rw [hit]; exact getI hcg⟩, by omega, trivial⟩ ?_
                  exact ⟨(), trivial, Ent.el ⟨rfl, rfl, rfl, rfl, rfl, rfl, by rw [hlo']; rfl, trivial⟩⟩
                · simp only [gt_iff_lt, decide_eq_false_iff_not] at he
                  have hi0 : c = [] := List.length_eq_zero_iff.1 (by omega)
                  refine LWp.skip ⟨(), trivial, Ent.el ⟨rfl, rfl, rfl, rfl, rfl, rfl, ?_, trivial⟩⟩
                  rw [hi0]; rfl
              intro _ _
              refine LWp.seq ?_
              refine LWp.x (gs := []) (hs := []) rfl trivial ?_
              refine LWp.block ?_
              refine LWp.loopN (fun v : Nat => loC c ≤ v ∧ v ≤ n) (fun v => el [(0, I n), (1, I m), (5, lists C), (6, I i), (7, .lin 32 1 ((A ++ (List.range' (loC c) (v - loC c)).map fun u => c ++ [u]).map fun c => [ints (natI c)])), (8, I k), (10, I v)]) (fun _ => []) (fun _ => []) (fun v => n - v) (loC c) ⟨by omega, hlo⟩
                (Ent.el ⟨rfl, rfl, rfl, rfl, by rw [Nat.sub_self]; simp; rfl, rfl, rfl, trivial⟩) ?_
              rintro v ⟨hv1, hv2⟩
              refine LWp.seq (LWp.seq ?_)
              refine LWp.x (gs := []) (hs := []) rfl trivial ?_
              refine LWp.ite rfl (fun he => ?_) (fun he => ?_)
              · simp only [decide_eq_true_eq, Int.ofNat_lt] at he
                have hrl : ((List.range' (loC c) (v - loC c)).map fun u => c ++ [u]).length ≤ n := by simp; omega
                have hst2 : (List.range' (loC c) (v + 1 - loC c)).map (fun u => c ++ [u]) = (List.range' (loC c) (v - loC c)).map (fun u => c ++ [u]) ++ [c ++ [v]] := by
                  rw [show v + 1 - loC c = (v - loC c) + 1 by omega, List.range'_concat, List.map_append]
                  simp; omega
                generalize (List.range' (loC c) (v - loC c)).map (fun u => c ++ [u]) = R at hrl hst2 ⊢
                refine LWp.skip (LWp.seq (LWp.block (LWp.ops ?_)))
                refine WOps.xn (gs := []) (hs := [.lin, .cells [ints (natI c)], .ice]) 10 rfl rfl ⟨rfl, ⟨by omega, by simp [hx]⟩, ⟨by simp [chunk]; omega, by simp [chunk]; omega⟩, rfl, ⟨by simp [chunk]; omega, by simp [chunk]; omega⟩, trivial⟩ ?_
                refine WOps.ent (Ent.freezeLin (t := 49) rfl) ?_
                refine WOps.xd (gs := []) (hs := [.ice]) rfl ⟨rfl, ⟨by simp [chunk]; omega, by simp [chunk]; omega⟩, trivial⟩ ?_
                refine LWp.x (gs := []) (hs := []) rfl ⟨by omega, trivial⟩ ?_
                refine ⟨v + 1, ⟨by omega, he⟩, by omega, Ent.el ⟨rfl, rfl, rfl, rfl, ?_, rfl, rfl, trivial⟩⟩
                show AV.lin _ _ _ = _
                have e : [ints (natI (c ++ [v]))] = [AV.sl 1 ((natI c).map (fun x => [I x]) ++ [[I v]])] := by simp [natI]
                rw [hst2, ← List.append_assoc, List.map_append (l₁ := A ++ R)]
                show _ = AV.lin 32 1 (_ ++ [[ints (natI (c ++ [v]))]])
                rw [e]; rfl
              · simp only [decide_eq_false_iff_not, Int.ofNat_lt] at he
                have : v = n := by omega
                subst this
                exact LWp.exit ⟨(), trivial, Ent.el ⟨rfl, rfl, rfl, rfl, rfl, rfl, trivial⟩⟩
            · intro _ _
              refine LWp.x (gs := []) (hs := []) rfl ⟨by omega, trivial⟩ ?_
              refine ⟨k + 1, hd, by omega, Ent.el ⟨rfl, rfl, rfl, rfl, ?_, rfl, trivial⟩⟩
              rw [hst]; rfl
          · simp only [List.length_map, decide_eq_false_iff_not, Int.ofNat_lt] at hd
            refine LWp.exit ⟨(), trivial, Ent.el ⟨rfl, rfl, rfl, ?_, trivial⟩⟩
            have e : C.take k = C := List.take_of_length_le (by omega)
            rw [e]; rfl
        · intro _ _
          refine LWp.x (gs := []) (hs := []) rfl trivial ?_
          exact ⟨(), trivial, Ent.el ⟨rfl, rfl, by rw [hnx]; rfl, rfl, trivial⟩⟩
      · intro _ _
        refine LWp.x (gs := []) (hs := []) rfl ⟨by omega, trivial⟩ ?_
        exact ⟨i + 1, hc, by omega, Ent.el ⟨rfl, rfl, rfl, rfl, trivial⟩⟩
    · simp only [decide_eq_false_iff_not, Int.ofNat_lt] at hc
      have : i = m := by omega
      subst this
      exact LWp.exit ⟨(), trivial, Ent.el ⟨rfl, trivial⟩⟩
  · intro _ _
    refine LWp.sx (gs := []) (hs := []) rfl trivial ?_
    exact LWp.ret (retT (.inr rfl) (.lin rfl rfl))
end Go.Px

