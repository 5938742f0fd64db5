/- Part 4 of the proofs of the outright statements of this seat (functions lowered, plain laws, contracts). No conditions. -/
import Derived.Test.YtgcdemklhalbhaaC3
namespace Go.Px
open Go.Proofs

theorem idxF_find {α : Type} (p : α → Bool) : ∀ (l : List α) (k : Int), 0 ≤ k → 0 ≤ idxF p l k → l.find? p = l[(idxF p l k - k).toNat]?
  | [], k, _, h => by simp [idxF] at h
  | x :: l, k, hk, h => by
    by_cases hp : p x = true
    · have e : idxF p (x :: l) k = k := by simp only [idxF, hp, if_true]
      rw [e]; simp [List.find?, hp]
    · have e : idxF p (x :: l) k = idxF p l (k + 1) := by simp only [idxF, hp, if_false, Bool.false_eq_true]
      rw [e] at h ⊢
      have h1 := (idxF_lt p l (k + 1) (by omega) h).1
      have := idxF_find p l (k + 1) (by omega) h
      rw [List.find?_cons_of_neg hp, this]
      have e2 : (idxF p l (k + 1) - k).toNat = (idxF p l (k + 1) - (k + 1)).toNat + 1 := by omega
      rw [e2]; simp
/-- What is found of a byte in the first letters of an alphabet. -/
def canK (n : Nat) (ls : List Letter) (c : Int) (k : Nat) : List Int := match (ls.take k).find? (fun x => x.c == c) with | some l => canL n l | none => []
theorem canK_all {n : Nat} {ls : List Letter} {c : Int} (h : 0 ≤ indexC ls c) {k : Nat} (hk : ls.length ≤ k) : canK n ls c k = canL n (letAt ls c) := by
  unfold canK
  rw [List.take_of_length_le hk, idxF_find _ _ 0 (by omega) h, Int.sub_zero]
  have := (letAt_mem h).2
  unfold indexC at this
  rw [this]
theorem canK_other {n : Nat} {ls : List Letter} {c : Int} {k : Nat} {y : Letter} (hy : ls[k]? = some y) (hc : y.c ≠ c) : canK n ls c (k + 1) = canK n ls c k := by
  unfold canK
  rw [List.take_add_one, hy, List.find?_append]
  cases hf : (ls.take k).find? (fun x => x.c == c) with
  | some x => simp
  | none => simp [hc]
theorem canK_none {n : Nat} {ls : List Letter} {c : Int} {k : Nat} (hn : ∀ x ∈ ls.take k, x.c ≠ c) : canK n ls c k = [] := by
  unfold canK
  have : (ls.take k).find? (fun x => x.c == c) = none := by
    rw [List.find?_eq_none]
    intro x hx
    simpa using hn x hx
  rw [this]
theorem canK_one {n : Nat} {ls : List Letter} {c : Int} {k : Nat} {y : Letter} (hn : ∀ x ∈ ls.take k, x.c ≠ c) (hy : ls[k]? = some y) (hc : y.c = c) : canK n ls c (k + 1) = canL n y := by
  unfold canK
  rw [List.take_add_one, hy, List.find?_append]
  have : (ls.take k).find? (fun x => x.c == c) = none := by
    rw [List.find?_eq_none]
    intro x hx
    simpa using hn x hx
  rw [this]
  simp [hc]
/-- The sounds below a number that a letter can give. -/
def sndL (m : Nat) (x : Letter) : List Int := ((List.range m).filter fun (k : Nat) => givesB x.s k).map fun (k : Nat) => (k : Int)
theorem sndL_succ (m : Nat) (x : Letter) : sndL (m + 1) x = sndL m x ++ if givesB x.s m = true then [(m : Int)] else [] := by
  unfold sndL
  rw [List.range_succ, List.filter_append, List.map_append]
  congr 1
  cases hg : givesB x.s m <;> simp [hg]
theorem sndL_len (m : Nat) (x : Letter) : (sndL m x).length ≤ m := by
  unfold sndL
  rw [List.length_map]
  exact Nat.le_trans (List.length_filter_le _ _) (by simp)
theorem canL_len (n : Nat) (x : Letter) : (canL n x).length ≤ n + 1 := by
  have h : canL n x = sndL n x ++ if x.q = true then [-1] else [] := rfl
  have := sndL_len n x
  rw [h, List.length_append]
  split <;> simp <;> omega
theorem saidP_len (n : Nat) (xs : List Letter) (x : List UInt8) : ∀ k, (saidP n xs x k).length ≤ k
  | 0 => by simp [saidP]
  | k + 1 => by
    have ih := saidP_len n xs x k
    by_cases hk : k < xs.length
    · obtain ⟨l, hl⟩ := ex_get hk
      rw [saidP_succ n x hl, List.length_append]
      unfold sayOne
      split <;> simp <;> omega
    · have e : saidP n xs x (k + 1) = saidP n xs x k := by
        unfold saidP
        rw [List.range_succ, List.flatMap_append]
        simp [List.getElem?_eq_none_iff.2 (show xs.length ≤ k by omega)]
      rw [e]; omega

abbrev linI (l : List Int) : AV := .lin 3 1 (l.map fun x => [I x])
theorem lin_snoc (l : List Int) (v : Int) : AV.lin 3 1 (l.map (fun x => [I x]) ++ [[I v]]) = linI (l ++ [v]) := by rw [linI, List.map_append]; rfl
theorem said_ev (b : Book) (V : Valid b) (s : Spelling) (sp : SpV b s) (x : List UInt8) : Ev Try.prog 39 [.agg b.enc, .agg s.enc, bytes x] (ints (saidB b s x)) := by
  obtain ⟨a, ha, hca⟩ := sp.ha
  have a0 := sp.a0
  have t5 := sp.t5
  have n1 := V.n1
  have n4 := V.n4
  have ok := V.alph a (List.mem_of_getElem? ha)
  have l6 := ok.l6
  have hnd := (nodup_iff_take _ _).1 ok.nd
  have exs : spLetters b s = s.t.map fun c => letAt a.ls c.toNat := by simp only [spLetters, ha]
  unfold saidB
  rw [exs]
  refine Ev.freeze (T := 3) ?_
  refine Ev.intro fn39 ?_
  refine LWp.sx (gs := []) (hs := [.ice, .ice]) rfl ⟨⟨rfl, rfl⟩, ⟨rfl, rfl⟩, trivial⟩ ?_
  refine LWp.sx (gs := []) (hs := []) rfl trivial ?_
  refine LWp.seq (LWp.seq ?_)
  refine LWp.x (gs := []) (hs := []) rfl trivial ?_
  have hs0 : saidP b.n.toNat (s.t.map fun c => letAt a.ls c.toNat) x 0 = [] := rfl
  have hls := fun k => saidP_len b.n.toNat (s.t.map fun c => letAt a.ls c.toNat) x k
  have hsucc := fun (k : Nat) (l : Letter) => saidP_succ b.n.toNat (xs := s.t.map fun c => letAt a.ls c.toNat) x (k := k) (l := l)
  generalize saidP b.n.toNat (s.t.map fun c => letAt a.ls c.toNat) x = sf at *
  refine LWp.blockT (fun _ : Unit => True) (fun _ => el [(7, linI (sf s.t.length))]) (fun _ => []) (fun _ => []) ?_ ?_
  · refine LWp.loopN (fun i : Nat => i ≤ s.t.length) (fun i => el [(2, bytes x), (3, .pi b.enc), (4, .pi s.enc), (7, linI (sf i)), (8, I i)]) (fun _ => []) (fun _ => []) (fun i => s.t.length - i) 0 (by omega)
      (Ent.trans (Ent.nilLin (t := 7) 3 1 rfl) (Ent.el ⟨rfl, rfl, rfl, by rw [hs0]; rfl, rfl, trivial⟩)) ?_
    intro i hi
    refine LWp.seq (LWp.seq ?_)
    refine LWp.x (gs := []) (hs := []) rfl trivial ?_
    refine LWp.ite rfl (fun hc => ?_) (fun hc => ?_)
    · simp only [decide_eq_true_eq] at hc
      have hc : i < s.t.length := by simpa [ByteArray.size] using hc
      obtain ⟨c, hcc⟩ := ex_get hc
      have hci := hca c (List.mem_of_getElem? hcc)
      have hsu := hsucc i (letAt a.ls c.toNat) (by rw [List.getElem?_map, hcc]; rfl)
      have hli := hls i
      generalize hlx : letAt a.ls c.toNat = lx at hsu
      have hcl : ∀ k, a.ls.length ≤ k → canK b.n.toNat a.ls c.toNat k = canL b.n.toNat lx := fun k hk => by rw [canK_all hci hk, hlx]
      refine LWp.skip ?_
      refine LWp.blockX (fun _ : Unit => True) (fun _ => el [(2, bytes x), (3, .pi b.enc), (4, .pi s.enc), (7, linI (sf (i + 1))), (8, I i)]) (fun _ => []) (fun _ => []) ?_ ?_
      · refine LWp.sx (gs := []) (hs := []) rfl trivial ?_
        refine LWp.sx (gs := []) (hs := [.cells a.enc]) rfl ⟨⟨a0, by simp [ha]⟩, trivial⟩ ?_
        refine LWp.seq (LWp.seq ?_)
        refine LWp.x (gs := []) (hs := []) rfl trivial ?_
        refine LWp.blockT (fun _ : Unit => True) (fun _ => el [(2, bytes x), (3, .pi b.enc), (4, .pi s.enc), (7, linI (sf i)), (8, I i), (9, linI (canL b.n.toNat lx))]) (fun _ => []) (fun _ => []) ?_ ?_
        · refine LWp.loopN (fun k : Nat => k ≤ a.ls.length) (fun k => el [(2, bytes x), (3, .pi b.enc), (4, .pi s.enc), (7, linI (sf i)), (8, I i), (9, linI (canK b.n.toNat a.ls c.toNat k)), (10, letters a.ls), (11, I k)]) (fun _ => []) (fun _ => []) (fun k => a.ls.length - k) 0 (by omega)
            (Ent.trans (Ent.nilLin (t := 9) 3 1 rfl) (Ent.el ⟨rfl, rfl, rfl, rfl, rfl, rfl, rfl, rfl, trivial⟩)) ?_
          intro k hk
          refine LWp.seq (LWp.seq ?_)
          refine LWp.x (gs := []) (hs := []) rfl trivial ?_
          refine LWp.ite rfl (fun hkc => ?_) (fun hkc => ?_)
          · simp only [List.length_map, decide_eq_true_eq, Int.ofNat_lt] at hkc
            obtain ⟨y, hy⟩ := ex_get hkc
            obtain ⟨y1, y2, y3, y4, _⟩ := ok.let_ y (List.mem_of_getElem? hy)
            have y5 : y.s < 9223372036854775808 := by
              have := pow2_le (k := b.n.toNat) (by omega)
              omega
            refine LWp.skip ?_
            refine LWp.blockX (fun _ : Unit => True) (fun _ => el [(2, bytes x), (3, .pi b.enc), (4, .pi s.enc), (7, linI (sf i)), (8, I i), (9, linI (canK b.n.toNat a.ls c.toNat (k + 1))), (10, letters a.ls), (11, I k)]) (fun _ => []) (fun _ => []) ?_ ?_
            · refine LWp.seq (LWp.seq ?_)
              refine LWp.dd (gs := []) (hs := [.cells y.enc, .byte c]) hmix rfl (by kernel_rfl) ⟨⟨by omega, by simp [hy]⟩, ⟨by omega, by simpa using hcc⟩, trivial⟩ ?_
              refine LWp.ite rfl (fun hne => ?_) (fun hne => LWp.skip ?_)
              · have hne : y.c ≠ c.toNat := by simpa using hne
                refine LWp.exit ⟨(), trivial, Ent.el ⟨rfl, rfl, rfl, rfl, rfl, ?_, rfl, rfl, trivial⟩⟩
                rw [canK_other hy hne]
                rfl
              · have hyc : y.c = c.toNat := by simpa using hne
                have hno : ∀ z ∈ a.ls.take k, z.c ≠ c.toNat := by
                  intro z hz e
                  exact hnd k y hy z hz (e.trans hyc.symm)
                rw [canK_none hno, canK_one hno hy hyc]
                have ecl : canL b.n.toNat y = sndL b.n.toNat y ++ if y.q = true then [-1] else [] := rfl
                refine LWp.seq (LWp.seq ?_)
                refine LWp.x (gs := []) (hs := []) rfl trivial ?_
                refine LWp.blockT (fun _ : Unit => True) (fun _ => el [(2, bytes x), (3, .pi b.enc), (4, .pi s.enc), (7, linI (sf i)), (8, I i), (9, linI (sndL b.n.toNat y)), (10, letters a.ls), (11, I k)]) (fun _ => []) (fun _ => []) ?_ ?_
                · refine LWp.loopN (fun m : Nat => m ≤ b.n.toNat) (fun m => el [(2, bytes x), (3, .pi b.enc), (4, .pi s.enc), (7, linI (sf i)), (8, I i), (9, linI (sndL m y)), (10, letters a.ls), (11, I k), (12, I m)]) (fun _ => []) (fun _ => []) (fun m => b.n.toNat - m) 0 (by omega)
                    (Ent.el ⟨rfl, rfl, rfl, rfl, rfl, rfl, rfl, rfl, rfl, trivial⟩) ?_
                  intro m hm
                  refine LWp.seq (LWp.seq ?_)
                  refine LWp.x (gs := []) (hs := []) rfl trivial ?_
                  refine LWp.ite rfl (fun hmc => ?_) (fun hmc => ?_)
                  · simp only [decide_eq_true_eq] at hmc
                    have hsn := sndL_succ m y
                    have hsl := sndL_len m y
                    refine LWp.skip ?_
                    refine LWp.blockX (fun _ : Unit => True) (fun _ => el [(2, bytes x), (3, .pi b.enc), (4, .pi s.enc), (7, linI (sf i)), (8, I i), (9, linI (sndL (m + 1) y)), (10, letters a.ls), (11, I k), (12, I m)]) (fun _ => []) (fun _ => []) ?_ ?_
                    · rw [hsn]
                      generalize sndL m y = sm at hsl
                      refine LWp.sx (gs := []) (hs := [.cells y.enc, .ret (B (givesB y.s m))]) rfl ⟨⟨by omega, by simp [hy]⟩, by rw [← bit_gives _ _ y3]; exact bit_ev y.s m y3 (by omega) (by omega), trivial⟩ ?_
                      refine LWp.ite rfl (fun hg => ?_) (fun hg => ?_)
                      · rw [if_pos hg]
                        refine LWp.x (gs := []) (hs := [.ice]) rfl ⟨rfl, ⟨by simp [chunk]; omega, by simp [chunk]; omega⟩, trivial⟩ ?_
                        refine ⟨(), trivial, Ent.el ⟨rfl, rfl, rfl, rfl, rfl, ?_, rfl, rfl, rfl, trivial⟩⟩
                        exact lin_snoc _ _
                      · rw [if_neg (by simp [hg]), List.append_nil]
                        exact LWp.skip ⟨(), trivial, Ent.el ⟨rfl, rfl, rfl, rfl, rfl, rfl, rfl, rfl, rfl, trivial⟩⟩
                    · intro _ _
                      refine LWp.x (gs := []) (hs := []) rfl ⟨by omega, trivial⟩ ?_
                      exact ⟨m + 1, by omega, by omega, Ent.el ⟨rfl, rfl, rfl, rfl, rfl, rfl, rfl, rfl, rfl, trivial⟩⟩
                  · simp only [decide_eq_false_iff_not] at hmc
                    have e : m = b.n.toNat := by omega
                    subst e
                    exact LWp.exit ⟨(), trivial, Ent.el ⟨rfl, rfl, rfl, rfl, rfl, rfl, rfl, rfl, trivial⟩⟩
                · intro _ _
                  have hsl := sndL_len b.n.toNat y
                  rw [ecl]
                  generalize sndL b.n.toNat y = sm at hsl
                  refine LWp.sx (gs := []) (hs := [.cells y.enc]) rfl ⟨⟨by omega, by simp [hy]⟩, trivial⟩ ?_
                  refine LWp.ite rfl (fun hg => ?_) (fun hg => ?_)
                  · rw [if_pos hg]
                    refine LWp.x (gs := []) (hs := [.ice]) rfl ⟨rfl, ⟨by simp [chunk]; omega, by simp [chunk]; omega⟩, trivial⟩ ?_
                    refine ⟨(), trivial, Ent.el ⟨rfl, rfl, rfl, rfl, rfl, ?_, rfl, rfl, trivial⟩⟩
                    exact lin_snoc _ _
                  · rw [if_neg (by simp [hg]), List.append_nil]
                    exact LWp.skip ⟨(), trivial, Ent.el ⟨rfl, rfl, rfl, rfl, rfl, rfl, rfl, rfl, trivial⟩⟩
            · intro _ _
              refine LWp.x (gs := []) (hs := []) rfl ⟨by omega, trivial⟩ ?_
              exact ⟨k + 1, by omega, by omega, Ent.el ⟨rfl, rfl, rfl, rfl, rfl, rfl, rfl, rfl, trivial⟩⟩
          · simp only [List.length_map, decide_eq_false_iff_not, Int.ofNat_lt] at hkc
            refine LWp.exit ⟨(), trivial, Ent.el ⟨rfl, rfl, rfl, rfl, rfl, ?_, trivial⟩⟩
            rw [← hcl k (by omega)]; rfl
        · intro _ _
          have hcn : canL b.n.toNat lx ≠ [] := by
            refine canL_ne (letters_give V sp lx ?_)
            rw [exs, ← hlx]
            exact List.mem_map.2 ⟨c, List.mem_of_getElem? hcc, rfl⟩
          have hso : sayOne b.n.toNat lx (turnF x i) = if 0 ≤ pickL (canL b.n.toNat lx) (turnF x i) then [pickL (canL b.n.toNat lx) (turnF x i)] else [] := rfl
          rw [hsu, hso]
          have ht0 := turnF_nn x i
          have ht1 := turnF_le x i
          have hcl2 := canL_len b.n.toNat lx
          generalize canL b.n.toNat lx = cl at hcn hcl2
          have hpos : 0 < cl.length := List.length_pos_iff.2 hcn
          have hpl : cl[(turnF x i % (cl.length : Int)).toNat]? = some (pickL cl (turnF x i)) := by
            have h1 : (turnF x i % (cl.length : Int)).toNat < cl.length := by
              have := Int.emod_lt_of_pos (turnF x i) (b := (cl.length : Int)) (by omega)
              omega
            obtain ⟨v, hv⟩ := ex_get h1
            unfold pickL
            rw [hv]; rfl
          have hmm : 0 ≤ turnF x i % (cl.length : Int) := Int.emod_nonneg _ (by omega)
          generalize pickL cl (turnF x i) = v at hpl
          refine LWp.ent (Ent.freezeLin (t := 9) rfl) ?_
          refine LWp.sx (gs := []) (hs := [.ret (I (turnF x i)), .cells [I v]]) rfl ⟨turn_ev x i, ⟨ht0, by simp; omega⟩, ⟨by rw [List.length_map]; exact hmm, by rw [List.length_map]; exact getI hpl⟩, trivial⟩ ?_
          refine LWp.sx (gs := []) (hs := []) rfl trivial ?_
          generalize sf i = si at hli
          refine LWp.ite rfl (fun hg => ?_) (fun hg => ?_)
          · rw [if_pos (by simpa using hg)]
            refine LWp.x (gs := []) (hs := [.ice]) rfl ⟨rfl, ⟨by simp [chunk]; omega, by simp [chunk]; omega⟩, trivial⟩ ?_
            refine ⟨(), trivial, Ent.el ⟨rfl, rfl, rfl, ?_, rfl, trivial⟩⟩
            exact lin_snoc _ _
          · rw [if_neg (by simpa using hg), List.append_nil]
            exact LWp.skip ⟨(), trivial, Ent.el ⟨rfl, rfl, rfl, rfl, rfl, trivial⟩⟩
      · intro _ _
        refine LWp.x (gs := []) (hs := []) rfl ⟨by omega, trivial⟩ ?_
        exact ⟨i + 1, by omega, by omega, Ent.el ⟨rfl, rfl, rfl, rfl, rfl, trivial⟩⟩
    · simp only [decide_eq_false_iff_not] at hc
      have hc : ¬ i < s.t.length := by simpa [ByteArray.size] using hc
      have e : i = s.t.length := by omega
      subst e
      exact LWp.exit ⟨(), trivial, Ent.el ⟨rfl, trivial⟩⟩
  · intro _ _
    refine LWp.sx (gs := []) (hs := []) rfl trivial ?_
    exact LWp.ret (retT (.inr rfl) (.lin rfl rfl))
end Go.Px

