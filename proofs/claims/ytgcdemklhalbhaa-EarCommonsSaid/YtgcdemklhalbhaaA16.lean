/- Part 16 of the proof of the statements of this seat (a logic of pure contracts, the functions lowered, their contracts, the statements). No conditions. -/
import Derived.Test.YtgcdemklhalbhaaA15
namespace Go.Px
open Go.Proofs

def hasN (out : List Nat) (n : Nat) : Bool := (natI out).any (· == (n : Int))
theorem hasN_iff {out : List Nat} {n : Nat} : hasN out n = true ↔ n ∈ out := by
  unfold hasN
  simp only [List.any_eq_true, List.mem_map, beq_iff_eq]
  constructor
  · rintro ⟨x, ⟨a, ha, rfl⟩, h⟩
    have : a = n := by omega
    subst this; exact ha
  · intro h; exact ⟨n, ⟨n, h, rfl⟩, rfl⟩
def furA (x : Letter) (out : List Nat) (n : Nat) : List Nat := if x.q = true ∧ hasN out n = false then out ++ [n] else out
def furB (x : Letter) (hd : List Int) (out : List Nat) (n : Nat) : List Nat := if (n < hd.length ∧ givesB x.s (hd.getD n 0) = true) ∧ hasN out (n + 1) = false then out ++ [n + 1] else out
def fur (x : Letter) (hd : List Int) (done : List Nat) : List Nat := done.foldl (fun out n => furB x hd (furA x out n) n) []
theorem furA_mem {x : Letter} {out : List Nat} {n k : Nat} : k ∈ furA x out n ↔ k ∈ out ∨ (x.q = true ∧ k = n) := by
  unfold furA
  split
  · rename_i h; simp [h.1]
  · rename_i h
    constructor
    · exact .inl
    · rintro (h1 | ⟨h1, rfl⟩)
      · exact h1
      · apply Decidable.byContradiction
        intro hn
        refine h ⟨h1, ?_⟩
        cases hh : hasN out k with
        | false => rfl
        | true => exact absurd (hasN_iff.1 hh) hn
theorem furB_mem {x : Letter} {hd : List Int} {out : List Nat} {n k : Nat} : k ∈ furB x hd out n ↔ k ∈ out ∨ (n < hd.length ∧ givesB x.s (hd.getD n 0) = true ∧ k = n + 1) := by
  unfold furB
  split
  · rename_i h; simp only [List.mem_append, List.mem_singleton, h.1.1, h.1.2, true_and]
  · rename_i h
    constructor
    · exact .inl
    · rintro (h1 | ⟨h1, h2, rfl⟩)
      · exact h1
      · apply Decidable.byContradiction
        intro hn
        refine h ⟨⟨h1, h2⟩, ?_⟩
        cases hh : hasN out (n + 1) with
        | false => rfl
        | true => exact absurd (hasN_iff.1 hh) hn
theorem fur_mem {x : Letter} {hd : List Int} {done : List Nat} {k : Nat} : k ∈ fur x hd done ↔ ∃ n ∈ done, Step1 hd x n k := by
  have key : ∀ (done out : List Nat), k ∈ done.foldl (fun out n => furB x hd (furA x out n) n) out ↔ k ∈ out ∨ ∃ n ∈ done, Step1 hd x n k := by
    intro done
    induction done with
    | nil => intro out; simp
    | cons n done ih =>
      intro out
      simp only [List.foldl_cons, ih, furB_mem, furA_mem, List.mem_cons, exists_eq_or_imp, Step1]
      constructor
      · rintro (((h | h) | h) | h)
        · exact .inl h
        · exact .inr (.inl (.inl h))
        · exact .inr (.inl (.inr h))
        · exact .inr (.inr h)
      · rintro (h | (h | h) | h)
        · exact .inl (.inl (.inl h))
        · exact .inl (.inl (.inr h))
        · exact .inl (.inr h)
        · exact .inr h
  have := key done []
  simpa [fur] using this
theorem fur_snoc (x : Letter) (hd : List Int) (done : List Nat) (n : Nat) : fur x hd (done ++ [n]) = furB x hd (furA x (fur x hd done) n) n := by
  simp [fur, List.foldl_append]
theorem furA_len (x : Letter) (out : List Nat) (n : Nat) : (furA x out n).length ≤ out.length + 1 := by
  unfold furA; split <;> simp
theorem furB_len (x : Letter) (hd : List Int) (out : List Nat) (n : Nat) : (furB x hd out n).length ≤ out.length + 1 := by
  unfold furB; split <;> simp
theorem fur_len (x : Letter) (hd : List Int) (done : List Nat) : (fur x hd done).length ≤ 2 * done.length := by
  have key : ∀ (done out : List Nat), (done.foldl (fun out n => furB x hd (furA x out n) n) out).length ≤ out.length + 2 * done.length := by
    intro done
    induction done with
    | nil => intro out; simp
    | cons n done ih =>
      intro out
      simp only [List.foldl_cons, List.length_cons]
      have h1 := ih (furB x hd (furA x out n) n)
      have h2 := furB_len x hd (furA x out n) n
      have h3 := furA_len x out n
      omega
  have := key done []
  simpa [fur] using this

theorem further_ev (x : Letter) (h0 : 0 ≤ x.s) (h1 : x.s < 9223372036854775808) (done : List Nat) (hdl : done.length ≤ 1000) (hdb : ∀ n ∈ done, n ≤ 1000) (hd : List Int) (hh : HOK hd) : Ev Try.prog 80 [.agg x.enc, ints (natI done), ints hd] (ints (natI (fur x hd done))) := by
  refine Ev.freeze (T := 3) ?_
  refine Ev.intro fn80 ?_
  refine LWp.slLen 2 rfl fun hll => ?_
  simp only [List.length_map] at hll
  refine LWp.sx (gs := []) (hs := [.ice]) rfl ⟨⟨rfl, rfl⟩, trivial⟩ ?_
  refine LWp.sx (gs := []) (hs := []) rfl trivial ?_
  refine LWp.seq (LWp.seq ?_)
  refine LWp.x (gs := []) (hs := []) rfl trivial ?_
  refine LWp.blockT (fun _ : Unit => True) (fun _ => el [(7, .lin 3 1 ((natI (fur x hd done)).map fun x => [I x]))]) (fun _ => []) (fun _ => []) ?_ ?_
  · refine LWp.loopN (fun k : Nat => k ≤ done.length) (fun k => el [(1, ints (natI done)), (2, ints hd), (3, .pi x.enc), (7, .lin 3 1 ((natI (fur x hd (done.take k))).map fun x => [I x])), (8, I k)]) (fun _ => []) (fun _ => []) (fun k => done.length - k) 0 (by omega)
      (Ent.trans (Ent.nilLin (t := 7) 3 1 rfl) (Ent.el ⟨rfl, rfl, rfl, rfl, rfl, trivial⟩)) ?_
    intro k hk
    refine LWp.seq (LWp.seq ?_)
    refine LWp.x (gs := []) (hs := []) rfl trivial ?_
    refine LWp.ite rfl (fun hc => ?_) (fun hc => ?_)
    · simp only [List.length_map, decide_eq_true_eq, Int.ofNat_lt] at hc
      obtain ⟨n, hn⟩ := ex_get hc
      have hnb := hdb n (List.mem_of_getElem? hn)
      have hsn : fur x hd (done.take (k + 1)) = furB x hd (furA x (fur x hd (done.take k)) n) n := by
        rw [List.take_add_one, hn]; exact fur_snoc _ _ _ _
      have hol := fur_len x hd (done.take k)
      have htl : (done.take k).length ≤ 1000 := by rw [List.length_take]; omega
      have hng : (natI done)[k]? = some (n : Int) := by
        show (done.map _)[k]? = _
        rw [List.getElem?_map, hn]; rfl
      generalize fur x hd (done.take k) = out at hsn hol
      refine LWp.skip ?_
      refine LWp.blockX (fun _ : Unit => True) (fun _ => el [(1, ints (natI done)), (2, ints hd), (3, .pi x.enc), (7, .lin 3 1 ((natI (fur x hd (done.take (k + 1)))).map fun x => [I x])), (8, I k)]) (fun _ => []) (fun _ => []) ?_ ?_
      · refine LWp.sx (gs := []) (hs := [.cells [I n]]) rfl ⟨⟨by omega, getI hng⟩, trivial⟩ ?_
        refine LWp.cutX (fun _ : Unit => True) (fun _ => el [(1, ints (natI done)), (2, ints hd), (3, .pi x.enc), (7, .lin 3 1 ((natI (furA x out n)).map fun x => [I x])), (8, I k), (9, I n)]) (fun _ => []) (fun _ => []) ?_ ?_
        · refine LWp.peek 7 rfl (fun ad cap => ?_)
          refine LWp.seq ?_
          by_cases hq : x.q = true
          · refine LWp.x (gs := [(22, true)]) (hs := [.retB [ints (natI out), I n] (B (hasN out n))]) rfl ⟨hq, hq, ⟨hq, has_ev _ _, rfl, .linV (u := 7) rfl rfl, .refl _, trivial⟩, hq, hq, trivial⟩ ?_
            refine LWp.ite rfl (fun hb => ?_) (fun hb => ?_)
            · simp only [Bool.not_eq_true'] at hb
              have e : furA x out n = out ++ [n] := by unfold furA; rw [if_pos ⟨hq, hb⟩]
              refine LWp.x (gs := []) (hs := [.ice, .own 7]) rfl ⟨rfl, ⟨⟨rfl, rfl, rfl⟩, by simp [chunk]; omega, by simp [chunk]; omega⟩, trivial⟩ ?_
              refine ⟨(), trivial, Ent.el ⟨rfl, rfl, rfl, ?_, rfl, rfl, trivial⟩⟩
              rw [e, natI_append, List.map_append]; rfl
            · simp only [Bool.not_eq_false'] at hb
              have e : furA x out n = out := by unfold furA; rw [if_neg (by simp [hb])]
              refine LWp.skip ⟨(), trivial, Ent.trans (Ent.unpeek (t := 7) rfl) (Ent.el ⟨rfl, rfl, rfl, by rw [e]; rfl, rfl, rfl, trivial⟩)⟩
          · have hq' : x.q = false := by simpa using hq
            have e : furA x out n = out := by unfold furA; rw [if_neg (by simp [hq'])]
            refine LWp.x (gs := [(22, false)]) (hs := []) rfl ⟨hq', hq', hq', hq', hq', trivial⟩ ?_
            refine LWp.ite (b := false) rfl (fun h => by cases h) (fun _ => ?_)
            exact LWp.skip ⟨(), trivial, Ent.trans (Ent.unpeek (t := 7) rfl) (Ent.el ⟨rfl, rfl, rfl, by rw [e]; rfl, rfl, rfl, trivial⟩)⟩
        intro _ _
        have hal := furA_len x out n
        generalize furA x out n = out2 at hsn hal
        rw [hsn]
        refine LWp.peek 7 rfl (fun ad cap => ?_)
        refine LWp.seq ?_
        by_cases hlt : n < hd.length
        · obtain ⟨v, hv⟩ := ex_get hlt
          obtain ⟨v0, v1⟩ := hh.2 v (List.mem_of_getElem? hv)
          have hgd : hd.getD n 0 = v := by rw [List.getD_eq_getElem?_getD, hv]; rfl
          have hvn : v = ((v.toNat : Nat) : Int) := by omega
          have hbit : Ev Try.prog 41 [I x.s, I v] (B (givesB x.s v)) := by
            have := bit_ev x.s v h0 (by omega) (by omega)
            rw [hvn, bit_gives _ _ h0, ← hvn] at this; exact this
          have hlt' : ((n : Int) < (hd.map fun x => [I x]).length) := by simp; omega
          cases hg : givesB x.s v with
          | true =>
            rw [hg] at hbit
            refine LWp.dd (gs := [(36, true), (45, true)]) (hs := [.cells [I v], .ret (B true), .foot [7], .retB [ints (natI out2), I ((n : Int) + 1)] (B (hasN out2 (n + 1)))]) hmix rfl (by kernel_rfl) ⟨decide_eq_true hlt', decide_eq_true hlt', decide_eq_true hlt', decide_eq_true hlt', ⟨decide_eq_true hlt', by omega, getI (by simpa using hv)⟩, decide_eq_true hlt', ⟨decide_eq_true hlt', hbit⟩, decide_eq_true hlt', rfl, rfl, ⟨rfl, by omega, by omega⟩, ⟨rfl, has_ev _ _, rfl, .linV (u := 7) rfl rfl, .refl _, trivial⟩, rfl, rfl, trivial⟩ ?_
            refine LWp.ite rfl (fun hb => ?_) (fun hb => ?_)
            · simp only [Bool.not_eq_true'] at hb
              have e : furB x hd out2 n = out2 ++ [n + 1] := by unfold furB; rw [if_pos ⟨⟨hlt, by rw [hgd]; exact hg⟩, hb⟩]
              refine LWp.x (gs := []) (hs := [.ice, .own 7]) rfl ⟨⟨by omega, by omega⟩, rfl, ⟨⟨rfl, rfl, rfl⟩, by simp [chunk]; omega, by simp [chunk]; omega⟩, trivial⟩ ?_
              refine ⟨(), trivial, Ent.el ⟨rfl, rfl, rfl, ?_, rfl, trivial⟩⟩
              rw [e, natI_append, List.map_append]; rfl
            · simp only [Bool.not_eq_false'] at hb
              have e : furB x hd out2 n = out2 := by unfold furB; rw [if_neg (by simp [hb])]
              exact LWp.skip ⟨(), trivial, Ent.trans (Ent.unpeek (t := 7) rfl) (Ent.el ⟨rfl, rfl, rfl, by rw [e]; rfl, rfl, trivial⟩)⟩
          | false =>
            rw [hg] at hbit
            have e : furB x hd out2 n = out2 := by unfold furB; rw [if_neg (by rw [hgd, hg]; simp)]
            refine LWp.dd (gs := [(36, true), (45, false)]) (hs := [.cells [I v], .ret (B false)]) hmix rfl (by kernel_rfl) ⟨decide_eq_true hlt', decide_eq_true hlt', decide_eq_true hlt', decide_eq_true hlt', ⟨decide_eq_true hlt', by omega, getI (by simpa using hv)⟩, decide_eq_true hlt', ⟨decide_eq_true hlt', hbit⟩, decide_eq_true hlt', rfl, rfl, rfl, rfl, rfl, rfl, trivial⟩ ?_
            refine LWp.ite (b := false) rfl (fun h => by cases h) (fun _ => ?_)
            exact LWp.skip ⟨(), trivial, Ent.trans (Ent.unpeek (t := 7) rfl) (Ent.el ⟨rfl, rfl, rfl, by rw [e]; rfl, rfl, trivial⟩)⟩
        · have e : furB x hd out2 n = out2 := by unfold furB; rw [if_neg (by simp [hlt])]
          have hlt' : ¬ ((n : Int) < (hd.map fun x => [I x]).length) := by simp; omega
          refine LWp.dd (gs := [(36, false), (45, false)]) (hs := []) hmix rfl (by kernel_rfl) ⟨decide_eq_false hlt', decide_eq_false hlt', decide_eq_false hlt', decide_eq_false hlt', decide_eq_false hlt', decide_eq_false hlt', decide_eq_false hlt', decide_eq_false hlt', rfl, rfl, rfl, rfl, rfl, rfl, trivial⟩ ?_
          refine LWp.ite (b := false) rfl (fun h => by cases h) (fun _ => ?_)
          exact LWp.skip ⟨(), trivial, Ent.trans (Ent.unpeek (t := 7) rfl) (Ent.el ⟨rfl, rfl, rfl, by rw [e]; rfl, rfl, trivial⟩)⟩
      · intro _ _
        refine LWp.x (gs := []) (hs := []) rfl ⟨by omega, trivial⟩ ?_
        exact ⟨k + 1, hc, by omega, Ent.el ⟨rfl, rfl, rfl, rfl, rfl, trivial⟩⟩
    · simp only [List.length_map, decide_eq_false_iff_not, Int.ofNat_lt] at hc
      refine LWp.exit ⟨(), trivial, Ent.el ⟨?_, trivial⟩⟩
      have e : done.take k = done := List.take_of_length_le (by omega)
      rw [e]; rfl
  · intro _ _
    refine LWp.sx (gs := []) (hs := []) rfl trivial ?_
    exact LWp.ret (retT (.inr rfl) (.lin rfl rfl))
end Go.Px

