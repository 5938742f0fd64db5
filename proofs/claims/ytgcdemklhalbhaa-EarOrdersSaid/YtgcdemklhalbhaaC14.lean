/- Part 14 of the proofs of the outright statements of this seat (functions lowered, plain laws, contracts). No conditions. -/
import Derived.Test.YtgcdemklhalbhaaC13
namespace Go.Px
open Go.Proofs

theorem path_says {n : Nat} {hd : List Int} (hv : ∀ v ∈ hd, 0 ≤ v ∧ v < (n : Int)) : ∀ {xs : List Letter} {d : Nat}, d ≤ hd.length → (Path hd xs d hd.length ↔ Says n xs (hd.drop d))
  | [], d, hdl => by
    simp only [Path, Says]
    constructor
    · rintro rfl; exact List.drop_length ..
    · intro h
      have := congrArg List.length h
      rw [List.length_drop] at this
      simp at this; omega
  | x :: xs, d, hdl => by
    simp only [Path, Says, Step1]
    constructor
    · rintro ⟨c, (⟨h1, rfl⟩ | ⟨h1, h2, rfl⟩), h3⟩
      · exact .inl ⟨h1, (path_says hv hdl).1 h3⟩
      · obtain ⟨v, hvv⟩ := ex_get h1
        have hb := hv v (List.mem_of_getElem? hvv)
        rw [List.getD_eq_getElem?_getD, hvv] at h2
        refine .inr ⟨v.toNat, by omega, by rw [show ((v.toNat : Nat) : Int) = v by omega]; exact h2, hd.drop (d + 1), ?_, (path_says hv (by omega)).1 h3⟩
        rw [drop_cons hvv, show ((v.toNat : Nat) : Int) = v by omega]
    · rintro (⟨h1, h2⟩ | ⟨k, h1, h2, r', e, h3⟩)
      · exact ⟨d, .inl ⟨h1, rfl⟩, (path_says hv hdl).2 h2⟩
      · have hlt : d < hd.length := by
          have := congrArg List.length e
          rw [List.length_drop] at this
          simp at this; omega
        obtain ⟨v, hvv⟩ := ex_get hlt
        rw [drop_cons hvv] at e
        simp only [List.cons.injEq] at e
        obtain ⟨rfl, rfl⟩ := e
        refine ⟨d + 1, .inr ⟨hlt, ?_, rfl⟩, (path_says hv (by omega)).2 h3⟩
        rw [List.getD_eq_getElem?_getD, hvv]; exact h2
theorem alph_lsD {n : Int} {a : Alph} (ok : AlOK n a) : LsD a.ls := ⟨fun x hx => ⟨(ok.let_ x hx).1, (ok.let_ x hx).2.1⟩, ok.nd⟩
theorem letAt_byte {ls : List Letter} (D : LsD ls) {k : Nat} (h : k < ls.length) : letAt ls (byteK ls k).toNat = atK ls k := by
  unfold letAt atK
  rw [indexC_byte D h]
  rfl
/-- A spelling that is made of letters' places. -/
theorem spelt_valid {b : Book} (V : Valid b) {a0 : Nat} {A : Alph} (hA : b.al[a0]? = some A) {ks : List Nat} (hk : ∀ k ∈ ks, k < A.ls.length) (h1 : 1 ≤ ks.length) (h5 : ks.length ≤ 5) : Valid (b.of [⟨a0, bytesK A.ls ks⟩]) := by
  have D := alph_lsD (V.alph A (List.mem_of_getElem? hA))
  refine of_valid V ?_ (by simp)
  intro s hs
  simp only [List.mem_singleton] at hs
  subst hs
  refine ⟨Int.natCast_nonneg _, ⟨A, hA, fun c hc => ?_⟩, by simpa [bytesK] using h1, by simpa [bytesK] using h5⟩
  obtain ⟨k, hkm, rfl⟩ := List.mem_map.1 hc
  rw [indexC_byte D (hk k hkm)]
  omega
theorem spelt_wf {b : Book} (hw : b.wf) {a0 : Nat} (ha : a0 ≤ 1000) {t : List UInt8} (ht : t.length ≤ 1000) : (b.of [⟨a0, t⟩]).wf := of_wf hw (by
  intro s hs
  simp only [List.mem_singleton] at hs
  subst hs
  exact ⟨by simp only; omega, by simp only; omega, by simp only; omega⟩)
theorem spelt_hear {b : Book} (V : Valid b) {a0 : Nat} {A : Alph} (hA : b.al[a0]? = some A) {ks : List Nat} (hk : ∀ k ∈ ks, k < A.ls.length) (g : List Int) : g ∈ hearS (b.of [⟨a0, bytesK A.ls ks⟩]) 0 ↔ Says b.n.toNat (lets A.ls ks) g := by
  have D := alph_lsD (V.alph A (List.mem_of_getElem? hA))
  rw [hearS_iff (b := b.of [⟨a0, bytesK A.ls ks⟩]) (s := ⟨a0, bytesK A.ls ks⟩) rfl]
  have e : spLetters (b.of [⟨a0, bytesK A.ls ks⟩]) ⟨a0, bytesK A.ls ks⟩ = lets A.ls ks := by
    show (match b.al[((a0 : Nat) : Int).toNat]? with | none => [] | some a => (bytesK A.ls ks).map fun (c : UInt8) => letAt a.ls c.toNat) = _
    rw [Int.toNat_natCast, hA]
    simp only [bytesK, List.map_map, lets]
    exact List.map_congr_left fun k hkm => letAt_byte D (hk k hkm)
  rw [e]; rfl
theorem range5 {m : Nat} : m ∈ List.range' 1 5 ↔ 1 ≤ m ∧ m ≤ 5 := by
  rw [List.mem_range'_1]; omega
/-- What Spell says. -/
theorem spell_of {b : Book} (V : Valid b) {a0 : Nat} {A : Alph} (hA : b.al[a0]? = some A) {sd : List Int} (h5 : sd.length ≤ 5) (hv : ∀ v ∈ sd, 0 ≤ v ∧ v < b.n) :
    (∃ ks, spellR b a0 sd = (bytesK A.ls ks, 0) ∧ 1 ≤ ks.length ∧ ks.length ≤ 5 ∧ (∀ k ∈ ks, k < A.ls.length) ∧ Says b.n.toNat (lets A.ls ks) sd ∧
      ∀ js : List Nat, 1 ≤ js.length → js.length ≤ 5 → (∀ k ∈ js, k < A.ls.length) → Says b.n.toNat (lets A.ls js) sd → fewerL (natI js) (natI ks) = false) ∨
    (spellR b a0 sd = ([], 9) ∧ ∀ js : List Nat, 1 ≤ js.length → js.length ≤ 5 → (∀ k ∈ js, k < A.ls.length) → ¬ Says b.n.toNat (lets A.ls js) sd) := by
  have D := alph_lsD (V.alph A (List.mem_of_getElem? hA))
  have n1 := V.n1
  have hal : a0 < b.al.length := (List.getElem?_eq_some_iff.1 hA).1
  have e0 : spellE b a0 sd = 0 := by
    unfold spellE
    rw [if_pos (enter_zero V (by simp; omega)), hear_zero h5 hv]
  have el : lettersOf b a0 = A.ls := by
    unfold lettersOf
    rw [Int.toNat_natCast, hA]
  have hps : ∀ js, Path sd (lets A.ls js) 0 sd.length ↔ Says b.n.toNat (lets A.ls js) sd := fun js => by
    have := path_says (n := b.n.toNat) (hd := sd) (fun v hv' => by have := hv v hv'; omega) (xs := lets A.ls js) (d := 0) (by omega)
    simpa using this
  unfold spellR
  rw [if_pos e0, el]
  cases hs : spellT A.ls sd with
  | some t =>
    left
    unfold spellT at hs
    obtain ⟨l1, m, l2, e1, e2, e3⟩ := List.findSome?_eq_some_iff.1 hs
    have hm := range5.1 (e1 ▸ (by simp) : m ∈ List.range' 1 5)
    have hw := wr_least D sd m 0
    rw [e2] at hw
    obtain ⟨ks, rfl, ⟨h1, h2⟩, h3, h4⟩ := hw
    refine ⟨ks, rfl, by omega, by omega, h2, (hps ks).1 h3, ?_⟩
    intro js j1 j5 jk jp
    have jp := (hps js).2 jp
    rcases Nat.lt_trichotomy js.length m with hlt | heq | hgt
    · have hmem : js.length ∈ l1 := by
        have h := range5.2 ⟨j1, j5⟩
        rw [e1] at h
        rcases List.mem_append.1 h with h | h
        · exact h
        · rcases List.mem_cons.1 h with h | h
          · omega
          · have hp : (l1 ++ m :: l2).Pairwise (· < ·) := by rw [← e1]; exact List.pairwise_lt_range'
            have := (List.pairwise_cons.1 (List.pairwise_append.1 hp).2.1).1 _ h
            omega
      have hw2 := wr_least D sd js.length 0
      rw [e3 _ hmem] at hw2
      exact absurd jp (hw2 js ⟨rfl, jk⟩)
    · unfold fewerL
      rw [natI_len, natI_len, if_pos (by omega)]
      rcases h4 js ⟨heq, jk⟩ jp with rfl | h
      · exact lessL_refl _
      · cases hq : lessL (natI js) (natI ks) with
        | false => rfl
        | true =>
          have := lessL_trans (by rw [natI_len, natI_len]; omega) (by rw [natI_len, natI_len]; omega) h hq
          rw [lessL_refl] at this; cases this
    · unfold fewerL
      rw [natI_len, natI_len, if_neg (by omega), decide_eq_false_iff_not]; omega
  | none =>
    right
    refine ⟨rfl, fun js j1 j5 jk jp => ?_⟩
    unfold spellT at hs
    rw [List.findSome?_eq_none_iff] at hs
    have := hs js.length (range5.2 ⟨j1, j5⟩)
    have hw := wr_least D sd js.length 0
    rw [this] at hw
    exact hw js ⟨rfl, jk⟩ ((hps js).2 jp)
theorem spell_bad {b : Book} (h : ¬ Valid b) (i : Int) (l : List Int) : (spellR b i l).2 ≠ 0 := by
  obtain ⟨e1, e2⟩ := enter_bad h b.al.length [i]
  have e : spellE b i l = (check b).2.2 := by
    unfold spellE
    rw [e1, if_neg e2]
  unfold spellR
  rw [e, if_neg e2]
  exact e2
end Go.Px

