/- Part 3 of the proofs of the outright statements of this seat (functions lowered, plain laws, contracts). No conditions. -/
import Derived.Test.YtgcdemklhalbhaaC2
namespace Go.Px
open Go.Proofs

def turnF (x : List UInt8) (n : Nat) : Int := match x[n % x.length]? with | some c => (c.toNat : Int) | none => 0
theorem turnF_nn (x : List UInt8) (n : Nat) : 0 ≤ turnF x n := by
  unfold turnF
  split <;> omega
theorem turnF_le (x : List UInt8) (n : Nat) : turnF x n ≤ 255 := by
  unfold turnF
  split
  · rename_i c _
    have := c.toNat_lt
    omega
  · omega
theorem turn_ev (x : List UInt8) (n : Nat) : Ev Try.prog 83 [bytes x, I n] (I (turnF x n)) := by
  refine Ev.intro fn83 ?_
  refine LWp.sx (gs := []) (hs := []) rfl trivial ?_
  refine LWp.seq (LWp.seq ?_)
  refine LWp.x (gs := []) (hs := []) rfl trivial ?_
  refine LWp.ite rfl (fun h => ?_) (fun h => LWp.skip ?_)
  · simp only [beq_iff_eq, List.length_map] at h
    have e : x = [] := List.length_eq_zero_iff.1 (by omega)
    subst e
    refine LWp.sx (gs := []) (hs := []) rfl trivial ?_
    refine LWp.ret (retT (.inr rfl) (.one (.tmp ?_ rfl)))
    rfl
  · simp only [beq_eq_false_iff_ne, ne_eq, List.length_map] at h
    have hl : 0 < x.length := by omega
    obtain ⟨c, hc⟩ := ex_get (Nat.mod_lt n hl)
    have em : ((n : Int) % ((x.map fun c => [U c.toNat]).length : Int)).toNat = n % x.length := by simp; omega
    have e0 : (0 : Int) ≤ (n : Int) % ((x.map fun c => [U c.toNat]).length : Int) := Int.emod_nonneg _ (by rw [List.length_map]; omega)
    have hcl := c.toNat_lt
    refine LWp.sx (gs := []) (hs := [.cells [U c.toNat]]) rfl ⟨⟨by omega, by simp; omega⟩, ⟨e0, by rw [em]; simp [hc]⟩, i64_wrap (by omega) (by omega), trivial⟩ ?_
    refine LWp.ret (retT (.inr rfl) (.one (.tmp ?_ rfl)))
    show I _ = I _
    unfold turnF
    rw [hc]

def validB (b : Book) : Bool := (check b).2.2 == 0
theorem validB_iff {b : Book} : validB b = true ↔ Valid b := by
  unfold validB
  rw [beq_iff_eq]
  exact valid_iff
theorem valid_ev (b : Book) (hw : b.wf) : Ev Try.prog 38 [.agg b.enc] (B (validB b)) := by
  refine Ev.intro fn38 ?_
  refine LWp.sx (gs := []) (hs := [.ice]) rfl ⟨⟨rfl, rfl⟩, trivial⟩ ?_
  refine LWp.sx (gs := []) (hs := [.ret (.tup [I (check b).1, I (check b).2.1, I (check b).2.2])]) rfl ⟨rcheck_ev b hw, trivial⟩ ?_
  refine LWp.sx (gs := []) (hs := []) rfl trivial ?_
  refine LWp.ret (retT (.inr rfl) (.one (.tmp ?_ rfl)))
  rfl

/-- What a letter can be, in turn. -/
def canL (n : Nat) (x : Letter) : List Int := (((List.range n).filter fun (k : Nat) => givesB x.s k).map fun (k : Nat) => (k : Int)) ++ if x.q = true then [-1] else []
def pickL (l : List Int) (t : Int) : Int := (l[(t % (l.length : Int)).toNat]?).getD 0
def sayOne (n : Nat) (l : Letter) (t : Int) : List Int := if 0 ≤ pickL (canL n l) t then [pickL (canL n l) t] else []
/-- What the first letters of a spelling are said as. -/
def saidP (n : Nat) (xs : List Letter) (x : List UInt8) (k : Nat) : List Int := (List.range k).flatMap fun i => match xs[i]? with | some l => sayOne n l (turnF x i) | none => []
theorem saidP_succ (n : Nat) {xs : List Letter} (x : List UInt8) {k : Nat} {l : Letter} (h : xs[k]? = some l) : saidP n xs x (k + 1) = saidP n xs x k ++ sayOne n l (turnF x k) := by
  unfold saidP
  rw [List.range_succ, List.flatMap_append]
  simp [h]
theorem canL_ne {n : Nat} {l : Letter} (h : l.q = true ∨ ∃ k : Nat, k < n ∧ givesB l.s k = true) : canL n l ≠ [] := by
  unfold canL
  intro e
  rw [List.append_eq_nil_iff, List.map_eq_nil_iff, List.filter_eq_nil_iff] at e
  rcases h with h | ⟨k, h1, h2⟩
  · rw [if_pos h] at e; exact absurd e.2 (by simp)
  · exact e.1 k (List.mem_range.2 h1) h2
theorem pickL_mem {l : List Int} (h : l ≠ []) (t : Int) : pickL l t ∈ l := by
  have hl : 0 < l.length := List.length_pos_iff.2 h
  have h1 : (t % (l.length : Int)).toNat < l.length := by
    have := Int.emod_lt_of_pos t (b := (l.length : Int)) (by omega)
    omega
  obtain ⟨c, hc⟩ := ex_get h1
  unfold pickL
  rw [hc]
  exact List.mem_of_getElem? hc
theorem says_append {n : Nat} : ∀ {xs ys : List Letter} {r s : List Int}, Says n xs r → Says n ys s → Says n (xs ++ ys) (r ++ s)
  | [], ys, r, s, h, k => by simp only [Says] at h; subst h; exact k
  | x :: xs, ys, r, s, h, k => by
    simp only [List.cons_append, Says] at h ⊢
    rcases h with ⟨h1, h2⟩ | ⟨j, h1, h2, r', rfl, h3⟩
    · exact .inl ⟨h1, says_append h2 k⟩
    · exact .inr ⟨j, h1, h2, r' ++ s, rfl, says_append h3 k⟩
theorem sayOne_says {n : Nat} {l : Letter} (h : l.q = true ∨ ∃ k : Nat, k < n ∧ givesB l.s k = true) (t : Int) : Says n [l] (sayOne n l t) := by
  have hm := pickL_mem (canL_ne h) t
  unfold sayOne
  generalize pickL (canL n l) t = v at hm
  unfold canL at hm
  rw [List.mem_append, List.mem_map] at hm
  simp only [Says]
  rcases hm with ⟨k, hk, rfl⟩ | hm
  · obtain ⟨h1, h2⟩ := List.mem_filter.1 hk
    rw [if_pos (by omega)]
    exact .inr ⟨k, List.mem_range.1 h1, h2, [], rfl, rfl⟩
  · split at hm
    · rename_i hq
      rw [List.mem_singleton] at hm
      subst hm
      exact .inl ⟨hq, rfl⟩
    · cases hm
theorem saidP_says {n : Nat} {xs : List Letter} (h : ∀ l ∈ xs, l.q = true ∨ ∃ k : Nat, k < n ∧ givesB l.s k = true) (x : List UInt8) : ∀ k, k ≤ xs.length → Says n (xs.take k) (saidP n xs x k)
  | 0, _ => by simp [saidP, Says]
  | k + 1, hk => by
    obtain ⟨l, hl⟩ := ex_get (show k < xs.length by omega)
    rw [saidP_succ n x hl, List.take_add_one, hl]
    exact says_append (saidP_says h x k (by omega)) (sayOne_says (h l (List.mem_of_getElem? hl)) _)
theorem letters_give {b : Book} (V : Valid b) {s : Spelling} (hs : SpV b s) : ∀ l ∈ spLetters b s, l.q = true ∨ ∃ k : Nat, k < b.n.toNat ∧ givesB l.s k = true := by
  obtain ⟨a, ha, hc⟩ := hs.ha
  have ok := V.alph a (List.mem_of_getElem? ha)
  intro x hx
  simp only [spLetters, ha] at hx
  obtain ⟨c, hcm, rfl⟩ := List.mem_map.1 hx
  obtain ⟨_, _, h0, h1, h2⟩ := ok.let_ _ (letAt_mem (hc c hcm)).1
  by_cases hz : (letAt a.ls c.toNat).s = 0
  · exact .inl (h2 hz)
  · exact .inr (gives_some (by omega) h1)
def saidB (b : Book) (s : Spelling) (x : List UInt8) : List Int := saidP b.n.toNat (spLetters b s) x s.t.length
theorem saidB_hear {b : Book} (V : Valid b) {k : Nat} {s : Spelling} (hs : b.ss[k]? = some s) (x : List UInt8) : saidB b s x ∈ hearS b k := by
  have sp := V.sp s (List.mem_of_getElem? hs)
  rw [hearS_iff hs]
  obtain ⟨a, ha, _⟩ := sp.ha
  have hl : (spLetters b s).length = s.t.length := by simp [spLetters, ha]
  have := saidP_says (letters_give V sp) x s.t.length (by omega)
  rwa [List.take_of_length_le (by omega)] at this
end Go.Px

