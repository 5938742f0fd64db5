/- Part 10 of the proofs of the outright statements of this seat (functions lowered, plain laws, contracts). No conditions. -/
import Derived.Test.YtgcdemklhalbhaaC9
namespace Go.Px
open Go.Proofs

/-- A letter can stand for all that another one can. -/
def LeL (n : Nat) (x y : Letter) : Prop := (x.q = true → y.q = true) ∧ ∀ k : Nat, k < n → givesB x.s k = true → givesB y.s k = true
theorem says_mono {n : Nat} : ∀ {xs ys : List Letter} {r : List Int}, All2 (LeL n) xs ys → Says n xs r → Says n ys r
  | [], [], _, _, h => h
  | x :: xs, y :: ys, r, h2, h => by
    simp only [Says] at h ⊢
    rcases h with ⟨h1, h3⟩ | ⟨k, h1, h3, r', rfl, h4⟩
    · exact .inl ⟨h2.1.1 h1, says_mono h2.2 h3⟩
    · exact .inr ⟨k, h1, h2.1.2 k h1 h3, r', rfl, says_mono h2.2 h4⟩
  | [], _ :: _, _, h, _ => h.elim
  | _ :: _, [], _, h, _ => h.elim
theorem idxF_map {α β : Type} (f : α → β) (p : β → Bool) : ∀ (l : List α) (k : Int), idxF (fun x => p (f x)) l k = idxF p (l.map f) k
  | [], _ => rfl
  | x :: l, k => by simp only [idxF, List.map_cons]; rw [idxF_map f p l (k + 1)]
theorem indexC_map (ls : List Letter) (c : Int) : indexC ls c = idxF (fun x : Int => x == c) (ls.map (·.c)) 0 := idxF_map (fun x : Letter => x.c) (fun x : Int => x == c) ls 0
theorem set_map_same {α β : Type} (f : α → β) {l : List α} {j : Nat} {x y : α} (h : l[j]? = some x) (e : f y = f x) : (l.set j y).map f = l.map f := by
  apply List.ext_getElem?
  intro k
  rw [List.getElem?_map, List.getElem?_map, List.getElem?_set]
  by_cases ek : j = k
  · subst ek
    rw [if_pos rfl, if_pos (List.getElem?_eq_some_iff.1 h).1, h]
    simp [e]
  · rw [if_neg ek]
theorem set_mem {α : Type} {l : List α} {j : Nat} {y z : α} (h : z ∈ l.set j y) : z = y ∨ z ∈ l := (List.mem_or_eq_of_mem_set h).symm

/-- A book with one letter said otherwise. -/
def Book.put (b : Book) (a0 : Nat) (A : Alph) (j : Nat) (l : Letter) : Book := ⟨b.n, b.al.set a0 ⟨A.name, A.ls.set j l⟩, b.ss⟩
section
variable {b : Book} (V : Valid b) {a0 j : Nat} {A : Alph} {l l' : Letter} (hA : b.al[a0]? = some A) (hl : A.ls[j]? = some l) (hc : l'.c = l.c)
include V hA hl hc
theorem put_index (c : Int) : indexC (A.ls.set j l') c = indexC A.ls c := by
  have _h := And.intro V hA
  rw [indexC_map, indexC_map, set_map_same (fun x : Letter => x.c) hl hc]
theorem put_letAt (c : Int) : letAt (A.ls.set j l') c = letAt A.ls c ∨ (letAt (A.ls.set j l') c = l' ∧ letAt A.ls c = l) := by
  unfold letAt
  rw [put_index V hA hl hc]
  generalize (indexC A.ls c).toNat = k
  rw [List.getElem?_set]
  by_cases e : j = k
  · subst e
    rw [if_pos rfl, if_pos (List.getElem?_eq_some_iff.1 hl).1, hl]
    exact .inr ⟨rfl, rfl⟩
  · rw [if_neg e]; exact .inl rfl
theorem put_valid (h0 : 0 ≤ l'.s) (h1 : l'.s < 2 ^ b.n.toNat) (hq : l'.s = 0 → l'.q = true) : Valid (b.put a0 A j l') := by
  have hmA := List.mem_of_getElem? hA
  have okA := V.alph A hmA
  have hml := List.mem_of_getElem? hl
  refine ⟨V.n1, V.n4, ?_, ?_, V.ss5, ?_, ?_, ?_⟩
  · show 1 ≤ (b.al.set _ _).length
    rw [List.length_set]; exact V.al1
  · show (b.al.set _ _).length ≤ 3
    rw [List.length_set]; exact V.al3
  · intro a ha
    rcases set_mem ha with rfl | ha
    · refine ⟨okA.name, by show 1 ≤ (A.ls.set j l').length; rw [List.length_set]; exact okA.l1, by show (A.ls.set j l').length ≤ 6; rw [List.length_set]; exact okA.l6, ?_, ?_⟩
      · intro x hx
        rcases set_mem hx with rfl | hx
        · obtain ⟨c0, c1, _⟩ := okA.let_ l hml
          exact ⟨by omega, by omega, h0, h1, hq⟩
        · exact okA.let_ x hx
      · show ((A.ls.set j l').map (·.c)).Nodup
        rw [set_map_same (fun x : Letter => x.c) hl hc]; exact okA.nd
    · exact V.alph a ha
  · show ((b.al.set a0 ⟨A.name, A.ls.set j l'⟩).map (·.name)).Nodup
    rw [set_map_same (y := ⟨A.name, A.ls.set j l'⟩) (fun x : Alph => x.name) hA rfl]; exact V.names
  · intro s hs
    have sp := V.sp s hs
    obtain ⟨a, ha, hca⟩ := sp.ha
    refine ⟨sp.a0, ?_, sp.t1, sp.t5⟩
    show ∃ a', (b.al.set a0 ⟨A.name, A.ls.set j l'⟩)[s.a.toNat]? = some a' ∧ _
    rw [List.getElem?_set]
    by_cases e : a0 = s.a.toNat
    · rw [← e] at ha ⊢
      rw [hA] at ha; cases ha
      rw [if_pos rfl, if_pos (List.getElem?_eq_some_iff.1 hA).1]
      exact ⟨_, rfl, fun c hcm => by rw [put_index V hA hl hc]; exact hca c hcm⟩
    · rw [if_neg e]
      exact ⟨a, ha, hca⟩
theorem put_hear (hle : LeL b.n.toNat l l') {k : Nat} {h : List Int} (hh : h ∈ hearS b k) : h ∈ hearS (b.put a0 A j l') k := by
  obtain ⟨s, hs⟩ := ex_get (hearS_lt hh)
  have sp := V.sp s (List.mem_of_getElem? hs)
  obtain ⟨a, ha, hca⟩ := sp.ha
  rw [hearS_iff hs] at hh
  rw [hearS_iff (b := b.put a0 A j l') (s := s) hs]
  refine says_mono ?_ hh
  have same : ∀ ts : List UInt8, All2 (LeL b.n.toNat) (ts.map fun (c : UInt8) => letAt a.ls c.toNat) (ts.map fun (c : UInt8) => letAt a.ls c.toNat) := by
    intro ts
    induction ts with
    | nil => trivial
    | cons c ts ih => exact ⟨⟨id, fun _ _ h => h⟩, ih⟩
  have e1 : spLetters b s = s.t.map fun (c : UInt8) => letAt a.ls c.toNat := by simp only [spLetters, ha]
  rw [e1]
  unfold spLetters
  show All2 _ _ (match (b.al.set a0 ⟨A.name, A.ls.set j l'⟩)[s.a.toNat]? with | none => [] | some a => s.t.map fun (c : UInt8) => letAt a.ls c.toNat)
  rw [List.getElem?_set]
  by_cases e : a0 = s.a.toNat
  · rw [← e] at ha ⊢
    rw [hA] at ha; cases ha
    rw [if_pos rfl, if_pos (List.getElem?_eq_some_iff.1 hA).1]
    generalize s.t = ts
    induction ts with
    | nil => trivial
    | cons c ts ih =>
      refine ⟨?_, ih⟩
      show LeL b.n.toNat (letAt A.ls c.toNat) (letAt (A.ls.set j l') c.toNat)
      rcases put_letAt V hA hl hc c.toNat with h1 | ⟨h1, h2⟩
      · rw [h1]; exact ⟨id, fun _ _ h => h⟩
      · rw [h1, h2]; exact hle
  · rw [if_neg e, ha]
    exact same s.t
end
theorem put_wf {b : Book} (hw : b.wf) {a0 j : Nat} {A : Alph} (hA : b.al[a0]? = some A) {l' : Letter} (hl' : l'.wf) : (b.put a0 A j l').wf := by
  refine ⟨hw.n0, hw.n1, ?_, hw.ss⟩
  intro a ha
  have wA := hw.al A (List.mem_of_getElem? hA)
  rcases set_mem ha with rfl | ha
  · exact ⟨wA.name, fun x hx => by
      rcases set_mem hx with rfl | hx
      · exact hl'
      · exact wA.ls x hx⟩
  · exact hw.al a ha

section
variable {b c : Book} (V : Valid b) (W : Valid c) (hw : b.wf) (hv : c.wf) (hss : c.ss.length = b.ss.length) (hle : ∀ k h, h ∈ hearS b k → h ∈ hearS c k)
include V W hw hv hle
theorem more_count {i : Nat} (hi : i < b.ss.length) (hi' : i < c.ss.length) : ∃ m o : Int, countR b i = (m, 0) ∧ countR c i = (o, 0) ∧ m ≤ o := by
  obtain ⟨K, h1, h2, h3⟩ := count_of V hw hi
  obtain ⟨M, g1, g2, g3⟩ := count_of W hv hi'
  refine ⟨_, _, h3, g3, ?_⟩
  have := List.Nodup.length_le_of_subset h1 (fun h hh => (g2 h).2 (hle i h ((h2 h).1 hh)))
  omega
theorem more_alike {i k : Nat} (hi : i < b.ss.length) (hk : k < b.ss.length) (hi' : i < c.ss.length) (hk' : k < c.ss.length) : ∃ p q e : Int, alikeR b i k = (p, e) ∧ alikeR c i k = (q, e) ∧ (e = 0 → p = 2 ∨ q ≠ 2) := by
  by_cases hik : i = k
  · subst hik
    exact ⟨0, 0, 2, alike_same V hi, alike_same W hi', fun h => by cases h⟩
  · obtain ⟨p, h1, h2⟩ := alike_is V hw hi hk hik
    obtain ⟨q, g1, g2⟩ := alike_is W hv hi' hk' hik
    refine ⟨p, q, 0, h1, g1, fun _ => ?_⟩
    by_cases hp : p = 2
    · exact .inl hp
    · right
      intro hq
      have h3 : ∃ h, h ∈ hearS b i ∧ h ∈ hearS b k := Classical.byContradiction fun hn => hp (h2.2.1.2 hn)
      obtain ⟨h, a1, a2⟩ := h3
      exact g2.2.1.1 hq ⟨h, hle i h a1, hle k h a2⟩
theorem more_odd (hss : c.ss.length = b.ss.length) : ∃ d e : List Nat, oddR b = (natI d, 0) ∧ oddR c = (natI e, 0) ∧ e.length ≤ d.length := by
  obtain ⟨d, h1, h2, h3, _, ⟨h, hh⟩, _⟩ := odd_of V hw
  obtain ⟨e, g1, _, _, _, _, g6⟩ := odd_of W hv
  refine ⟨d, e, h1, g1, ?_⟩
  have := g6 d h2 (fun v hv => by rw [hss]; exact h3 v hv) ⟨h, fun k k1 k2 => hle k h (hh k (by omega) k2)⟩
  unfold fewerL at this
  rw [natI_len, natI_len] at this
  split at this
  · omega
  · simp at this; omega
end
end Go.Px

