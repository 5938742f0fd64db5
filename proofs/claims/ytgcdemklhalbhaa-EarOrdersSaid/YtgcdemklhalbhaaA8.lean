/- Part 8 of the proof of the statements of this seat (a logic of pure contracts, the functions lowered, their contracts, the statements). No conditions. -/
import Derived.Test.YtgcdemklhalbhaaA7
namespace Go.Px
open Go.Proofs

/-- Marks of numbers. -/
def markL (p : Nat → Bool) : List Bool := (List.range 3125).map p
theorem markL_len (p : Nat → Bool) : (markL p).length = 3125 := by simp [markL]
theorem markL_get (p : Nat → Bool) {c : Nat} (h : c < 3125) : (markL p)[c]? = some (p c) := by simp [markL, h]
abbrev markE (p : Nat → Bool) : List (List AV) := (markL p).map fun x => [B x]
theorem markE_get (p : Nat → Bool) {c : Nat} (h : c < 3125) : (markE p)[c]? = some [B (p c)] := by
  show ((markL p).map _)[c]? = _
  rw [List.getElem?_map, markL_get p h]; rfl
theorem markE_len (p : Nat → Bool) : (markE p).length = 3125 := by
  show ((markL p).map _).length = _
  rw [List.length_map, markL_len]
theorem markL_set (p : Nat → Bool) {m : Nat} (h : m < 3125) (v : Bool) : (markL p).set m v = markL (fun c => if c = m then v else p c) := by
  apply List.ext_getElem?
  intro i
  rw [List.getElem?_set]
  by_cases hi : i < 3125
  · by_cases e : m = i
    · subst e; rw [if_pos rfl, if_pos (by rw [markL_len]; exact h), markL_get _ h, if_pos rfl]
    · rw [if_neg e, markL_get _ hi, markL_get _ hi, if_neg (fun e' => e e'.symm)]
  · have h1 : ∀ q, (markL q)[i]? = none := fun q => List.getElem?_eq_none (by rw [markL_len]; omega)
    rw [h1, h1]
    split
    · split
      · rename_i e _; omega
      · rfl
    · rfl
theorem markE_set (p : Nat → Bool) {m : Nat} (h : m < 3125) (v : Bool) : (markE p).set m (setSeg [B (p m)] 0 (cellsAV (B v))) = markE (fun c => if c = m then v else p c) := by
  show ((markL p).map _).set m _ = (markL _).map _
  rw [← markL_set p h v, List.map_set]; rfl
theorem markE_congr {p q : Nat → Bool} (h : ∀ c, c < 3125 → p c = q c) : markE p = markE q := by
  have : markL p = markL q := by
    unfold markL
    exact List.map_congr_left (fun c hc => h c (List.mem_range.1 hc))
  show (markL p).map _ = (markL q).map _
  rw [this]
theorem replicate_range {α : Type} (x : α) : ∀ n : Nat, List.replicate n x = (List.range n).map (fun _ => x)
  | 0 => rfl
  | n + 1 => by rw [List.replicate_succ', List.range_succ, List.map_append, replicate_range x n]; rfl
theorem mark_zero (n : Nat) : List.replicate n ([Value.bool false].map AV.v) = ((List.range n).map (fun _ => false)).map (fun x => [B x]) := by
  rw [List.map_map, replicate_range]; rfl
theorem markE_zero : List.replicate 3125 ([Value.bool false].map AV.v) = markE (fun _ => false) := mark_zero 3125

/-- One letter more. -/
def stepP (n : Nat) (x : Letter) (p : Nat → Bool) : Nat → Bool := fun c => (p c && x.q) || (decide (0 < c) && decide ((c - 1) % 5 < n) && givesB x.s (((c - 1) % 5 : Nat) : Int) && p ((c - 1) / 5))
def strP (n : Nat) (xs : List Letter) : Nat → Bool := xs.foldl (fun p x => stepP n x p) (fun c => c == 0)
def partP (n : Nat) (x : Letter) (p : Nat → Bool) (k : Nat) : Nat → Bool := fun c => (p c && x.q && decide (c < k)) || (decide (0 < c) && decide ((c - 1) % 5 < n) && givesB x.s (((c - 1) % 5 : Nat) : Int) && p ((c - 1) / 5) && decide ((c - 1) / 5 < k))
def partJ (n : Nat) (x : Letter) (p : Nat → Bool) (k j : Nat) : Nat → Bool := fun c => partP n x p k c || (decide (c = k) && x.q) || (decide (0 < c) && decide ((c - 1) / 5 = k) && decide ((c - 1) % 5 < j) && givesB x.s (((c - 1) % 5 : Nat) : Int))
theorem partP_zero (n : Nat) (x : Letter) (p : Nat → Bool) : partP n x p 0 = fun _ => false := by
  funext c; simp [partP]
theorem bool_no : ∀ pc q a b z p5 a5 b5 : Bool, (pc && b) = false → (p5 && b5) = false → ((pc && q && (a || b)) || (z && p5 && (a5 || b5))) = ((pc && q && a) || (z && p5 && a5)) := by decide
theorem bool_yes : ∀ pc q a b z p5 a5 b5 : Bool, (pc && b) = b → (p5 && b5) = b5 → ((pc && q && (a || b)) || (z && p5 && (a5 || b5))) = (((pc && q && a) || (z && p5 && a5)) || (b && q) || (z && b5)) := by decide
theorem dec_succ (c k : Nat) : decide (c < k + 1) = (decide (c < k) || decide (c = k)) := by
  rw [Bool.eq_iff_iff]; simp; omega
theorem partP_no {n : Nat} {x : Letter} {p : Nat → Bool} {k : Nat} (h : p k = false) : partP n x p (k + 1) = partP n x p k := by
  funext c
  simp only [partP, dec_succ]
  refine bool_no _ _ _ _ _ _ _ _ ?_ ?_
  · by_cases e : c = k
    · rw [e, h]; rfl
    · simp [e]
  · by_cases e : (c - 1) / 5 = k
    · rw [e, h]; rfl
    · simp [e]
theorem partP_yes {n : Nat} {x : Letter} {p : Nat → Bool} {k : Nat} (h : p k = true) : partP n x p (k + 1) = partJ n x p k n := by
  funext c
  have e0 : (decide (0 < c) && decide ((c - 1) / 5 = k) && decide ((c - 1) % 5 < n) && givesB x.s (((c - 1) % 5 : Nat) : Int)) = (decide (0 < c) && decide ((c - 1) % 5 < n) && givesB x.s (((c - 1) % 5 : Nat) : Int) && decide ((c - 1) / 5 = k)) := by
    generalize decide (0 < c) = a1
    generalize decide ((c - 1) / 5 = k) = a2
    generalize decide ((c - 1) % 5 < n) = a3
    generalize givesB x.s (((c - 1) % 5 : Nat) : Int) = a4
    cases a1 <;> cases a2 <;> cases a3 <;> cases a4 <;> rfl
  simp only [partP, partJ, dec_succ, e0]
  refine bool_yes _ _ _ _ _ _ _ _ ?_ ?_
  · by_cases e : c = k
    · rw [e, h]; simp
    · simp [e]
  · by_cases e : (c - 1) / 5 = k
    · rw [e, h]; simp
    · simp [e]
theorem partP_all {n : Nat} {x : Letter} {p : Nat → Bool} {c : Nat} (h : c < 3125) : partP n x p 3125 c = stepP n x p c := by
  have h2 : (c - 1) / 5 < 3125 := by omega
  simp [partP, stepP, h, h2]
theorem stepP_lt {n : Nat} (hn : n ≤ 4) {x : Letter} {p : Nat → Bool} {m : Nat} (h : ∀ c, p c = true → c < 5 ^ m) : ∀ c, stepP n x p c = true → c < 5 ^ (m + 1) := by
  intro c hc
  rw [Nat.pow_succ]
  simp only [stepP, Bool.or_eq_true, Bool.and_eq_true, decide_eq_true_eq] at hc
  rcases hc with ⟨h1, _⟩ | ⟨⟨⟨h1, h2⟩, _⟩, h3⟩
  · have := h c h1; omega
  · have := h _ h3
    omega
theorem strP_snoc (n : Nat) (xs : List Letter) (x : Letter) : strP n (xs ++ [x]) = stepP n x (strP n xs) := by
  simp [strP, List.foldl_append]
theorem strP_lt {n : Nat} (hn : n ≤ 4) (xs : List Letter) : ∀ c, strP n xs c = true → c < 5 ^ xs.length := by
  have key : ∀ (ys : List Letter) (c : Nat), strP n ys.reverse c = true → c < 5 ^ ys.length := by
    intro ys
    induction ys with
    | nil => intro c h; simp [strP] at h; simp [h]
    | cons y ys ih =>
      intro c h
      rw [List.reverse_cons, strP_snoc] at h
      exact stepP_lt hn ih c h
  have := key xs.reverse
  rw [List.reverse_reverse, List.length_reverse] at this
  exact this

theorem bit_gives (s : Int) (k : Nat) (h : 0 ≤ s) : bitI s k = givesB s k := by
  unfold bitI givesB
  have hq : 0 ≤ s / 2 ^ ((k : Nat) : Int).toNat := Int.ediv_nonneg h (Int.le_of_lt (Int.pow_pos (by omega)))
  generalize s / 2 ^ ((k : Nat) : Int).toNat = q at hq
  obtain ⟨m, rfl⟩ := Int.eq_ofNat_of_zero_le hq
  have e1 : ((m : Int)).toNat &&& (1 : Int).toNat = m % 2 := by
    show m &&& 1 = m % 2
    exact Nat.and_one_is_mod m
  rw [e1, Bool.eq_iff_iff, decide_eq_true_iff, beq_iff_eq]
  omega

theorem strings_lin_ev (b : Book) (hn0 : 0 ≤ b.n) (hn4 : b.n ≤ 4) (s : Spelling) (a : Alph) (ha0 : 0 ≤ s.a) (ha : b.al[s.a.toNat]? = some a) (hl : LsOK a.ls) (ht5 : s.t.length ≤ 5) (hin : ∀ c ∈ s.t, 0 ≤ indexC a.ls c.toNat) :
    Ev Try.prog 63 [.agg b.enc, .agg s.enc] (.lin 4 1 (markE (strP b.n.toNat (s.t.map fun c => letAt a.ls c.toNat)))) := by
  generalize hxs : (s.t.map fun c => letAt a.ls c.toNat) = xs
  have hxl : xs.length = s.t.length := by rw [← hxs]; simp
  refine Ev.intro fn63 ?_
  refine LWp.sx (gs := []) (hs := [.ice, .ice]) rfl ⟨⟨rfl, rfl⟩, ⟨rfl, rfl⟩, trivial⟩ ?_
  refine LWp.seq (LWp.ops (WOps.cons (Op1.mslice 3125 rfl rfl rfl rfl (by omega) (by omega) rfl (fun b5 => ?_))))
  rw [List.length_replicate, markE_zero]
  refine WOps.hd (gs := []) (hs := []) rfl trivial ?_
  refine LWp.seq ?_
  refine LWp.hx (gs := []) (hs := [.stE 0 0 0 [B false]]) rfl ⟨⟨by omega, by omega⟩, ⟨rfl, rfl, markE_get _ (by omega), rfl, rfl, rfl, by omega⟩, trivial⟩ ?_
  refine LWp.ent (Ent.ofH (H' := [(b5, .arr 4 1 3125 (markE (strP b.n.toNat (xs.take 0))))]) ?_) ?_
  · have e1 : (markE (fun _ => false)).set 0 (setSeg [B false] 0 (cellsAV (B true))) = markE (strP b.n.toNat (xs.take 0)) := by
      have := markE_set (fun _ => false) (m := 0) (by omega) true
      rw [this]
      refine markE_congr (fun c _ => ?_)
      by_cases e : c = 0 <;> simp [strP, e]
    show [(b5, HObj.arr 4 1 3125 ((markE (fun _ => false)).set 0 (setSeg [B false] 0 (cellsAV (B true)))))] = _
    rw [e1]
  refine LWp.seq (LWp.seq ?_)
  refine LWp.x (gs := []) (hs := []) rfl trivial ?_
  refine LWp.blockT (fun _ : Nat => True) (fun b5 => el [(5, .so b5 3125 3125)]) (fun b5 => [(b5, .arr 4 1 3125 (markE (strP b.n.toNat xs)))]) (fun _ => []) ?_ ?_
  · refine LWp.loopN (X := Nat × Nat) (fun x => x.1 ≤ s.t.length) (fun x => el [(2, .pi b.enc), (3, .pi s.enc), (5, .so x.2 3125 3125), (6, I x.1)]) (fun x => [(x.2, .arr 4 1 3125 (markE (strP b.n.toNat (xs.take x.1))))]) (fun _ => []) (fun x => s.t.length - x.1) (0, b5) (by simp)
      (Ent.el ⟨rfl, rfl, rfl, rfl, trivial⟩) ?_
    rintro ⟨i, b5⟩ hi
    simp only at hi ⊢
    refine LWp.seq (LWp.seq ?_)
    refine LWp.x (gs := []) (hs := []) rfl trivial ?_
    refine LWp.ite rfl (fun hc => ?_) (fun hc => ?_)
    · simp only [decide_eq_true_eq] at hc
      have hc' : i < s.t.length := by have : ((i : Int) < (s.t.length : Int)) := hc; omega
      obtain ⟨c, hx⟩ := ex_get hc'
      have hidx := hin c (List.mem_of_getElem? hx)
      obtain ⟨_, x, hgx, _⟩ := idxF_lt _ a.ls 0 (by omega) hidx
      rw [Int.sub_zero] at hgx
      have hgx : a.ls[(indexC a.ls c.toNat).toNat]? = some x := hgx
      have hxx : xs[i]? = some x := by
        rw [← hxs, List.getElem?_map, hx]
        simp only [Option.map_some, letAt, hgx]; rfl
      obtain ⟨_, _, s0, s1⟩ := hl.2 x (List.mem_of_getElem? hgx)
      have hpl : ∀ d, strP b.n.toNat (xs.take i) d = true → d < 625 := by
        intro d hd
        have h1 := strP_lt (n := b.n.toNat) (by omega) (xs.take i) d hd
        have h2 : (xs.take i).length = i := by rw [List.length_take]; omega
        rw [h2] at h1
        have h3 : 5 ^ i ≤ 5 ^ 4 := Nat.pow_le_pow_right (by omega) (by omega)
        omega
      have hsn : strP b.n.toNat (xs.take (i + 1)) = stepP b.n.toNat x (strP b.n.toNat (xs.take i)) := by
        rw [List.take_add_one, hxx]
        exact strP_snoc _ _ _
      generalize hp : strP b.n.toNat (xs.take i) = p at hpl hsn
      refine LWp.skip ?_
      refine LWp.blockX (fun _ : Nat => True) (fun b9 => el [(2, .pi b.enc), (3, .pi s.enc), (5, .so b9 3125 3125), (6, I i)]) (fun b9 => [(b9, .arr 4 1 3125 (markE (strP b.n.toNat (xs.take (i + 1)))))]) (fun _ => []) ?_ ?_
      · refine LWp.sx (gs := []) (hs := [.cells a.enc, .lin]) rfl ⟨⟨ha0, by simp [ha]⟩, rfl, ⟨rfl, rfl, rfl, by decide⟩, trivial⟩ ?_
        refine LWp.ent (Ent.freezeLbox (t := 7) rfl) ?_
        refine LWp.sd (gs := []) (hs := [.byte c, .ret (I (indexC a.ls c.toNat)), .cells x.enc, .lin]) hmix rfl (by kernel_rfl) ⟨⟨by omega, by simpa using hx⟩, rletter_ev a c.toNat hl.1, ⟨hidx, by simp [hgx]⟩, rfl, ⟨rfl, rfl, rfl, by decide⟩, trivial⟩ ?_
        refine LWp.ent (Ent.freezeLbox (t := 8) rfl) ?_
        refine LWp.seq (LWp.ops (WOps.cons (Op1.mslice 3125 rfl rfl rfl rfl (by omega) (by omega) rfl (fun b9 => ?_))))
        rw [List.length_replicate, markE_zero]
        refine WOps.hd (gs := []) (hs := []) rfl trivial ?_
        refine LWp.seq (LWp.seq ?_)
        refine LWp.x (gs := []) (hs := []) rfl trivial ?_
        refine LWp.blockT (fun _ : Unit => True) (fun _ => el [(2, .pi b.enc), (3, .pi s.enc), (6, I i), (9, .so b9 3125 3125)]) (fun _ => [(b9, .arr 4 1 3125 (markE (partP b.n.toNat x p 3125)))]) (fun _ => []) ?_ ?_
        · refine LWp.loopN (fun k : Nat => k ≤ 3125) (fun k => el [(2, .pi b.enc), (3, .pi s.enc), (5, .so b5 3125 3125), (6, I i), (8, .pi x.enc), (9, .so b9 3125 3125), (10, I k)]) (fun k => [(b9, .arr 4 1 3125 (markE (partP b.n.toNat x p k))), (b5, .arr 4 1 3125 (markE p))]) (fun _ => []) (fun k => 3125 - k) 0 (by omega)
            (Ent.trans (Ent.ofH (by rw [partP_zero])) (Ent.el ⟨rfl, rfl, rfl, rfl, rfl, rfl, rfl, trivial⟩)) ?_
          intro k hk
          refine LWp.seq (LWp.seq ?_)
          refine LWp.x (gs := []) (hs := []) rfl trivial ?_
          refine LWp.ite rfl (fun hd => ?_) (fun hd => ?_)
          · simp only [decide_eq_true_eq] at hd
            have hk' : k < 3125 := by omega
            refine LWp.skip ?_
            refine LWp.blockX (fun _ : Unit => True) (fun _ => el [(2, .pi b.enc), (3, .pi s.enc), (5, .so b5 3125 3125), (6, I i), (8, .pi x.enc), (9, .so b9 3125 3125), (10, I k)]) (fun _ => [(b9, .arr 4 1 3125 (markE (partP b.n.toNat x p (k + 1)))), (b5, .arr 4 1 3125 (markE p))]) (fun _ => []) ?_ ?_
            · refine LWp.seq (LWp.seq ?_)
              refine LWp.x (gs := []) (hs := [.elt 1 k 0 [B (p k)]]) rfl ⟨⟨by omega, by omega⟩, ⟨rfl, rfl, markE_get p hk'⟩, trivial⟩ ?_
              refine LWp.ite rfl (fun he => ?_) (fun he => ?_)
              · simp only [Bool.not_eq_true'] at he
                refine LWp.exit ⟨(), trivial, Ent.trans (Ent.ofH ?_) (Ent.el ⟨rfl, rfl, rfl, rfl, rfl, rfl, rfl, trivial⟩)⟩
                rw [partP_no he]
              · simp only [Bool.not_eq_false'] at he
                have hk6 := hpl k he
                have hsu := partP_yes (n := b.n.toNat) (x := x) he
                refine LWp.skip ?_
                refine LWp.cutX (fun _ : Unit => True) (fun _ => el [(2, .pi b.enc), (3, .pi s.enc), (5, .so b5 3125 3125), (6, I i), (8, .pi x.enc), (9, .so b9 3125 3125), (10, I k)]) (fun _ => [(b9, .arr 4 1 3125 (markE (partJ b.n.toNat x p k 0))), (b5, .arr 4 1 3125 (markE p))]) (fun _ => []) ?_ ?_
                · have hfin : ∀ v : Bool, v = (partP b.n.toNat x p k k || x.q) → (markE (partP b.n.toNat x p k)).set k (setSeg [B (partP b.n.toNat x p k k)] 0 (cellsAV (B v))) = markE (partJ b.n.toNat x p k 0) := by
                    intro v hv
                    rw [markE_set _ hk' v]
                    refine markE_congr (fun d _ => ?_)
                    by_cases e : d = k
                    · subst e; simp [partJ, hv]
                    · simp [partJ, e]
                  cases hq : partP b.n.toNat x p k k with
                  | true =>
                    rw [hq] at hfin
                    refine LWp.hx (gs := [(54, true)]) (hs := [.elt 0 k 0 [B true], .stE 0 k 0 [B true]]) rfl ⟨⟨by omega, by omega⟩, ⟨rfl, rfl, by rw [markE_get _ hk', hq]⟩, rfl, rfl, rfl, ⟨by omega, by omega⟩, ⟨rfl, rfl, by rw [markE_get _ hk', hq], rfl, rfl, rfl, by omega⟩, trivial⟩ ?_
                    refine ⟨(), trivial, Ent.trans (Ent.ofH ?_) (Ent.el ⟨rfl, rfl, rfl, rfl, rfl, rfl, rfl, trivial⟩)⟩
                    show [(b9, HObj.arr 4 1 3125 ((markE (partP b.n.toNat x p k)).set k (setSeg [B true] 0 (cellsAV (B true))))), _] = _
                    rw [hfin true (by simp)]
                  | false =>
                    rw [hq] at hfin
                    refine LWp.hx (gs := [(54, false)]) (hs := [.elt 0 k 0 [B false], .stE 0 k 0 [B false]]) rfl ⟨⟨by omega, by omega⟩, ⟨rfl, rfl, by rw [markE_get _ hk', hq]⟩, rfl, rfl, rfl, ⟨by omega, by omega⟩, ⟨rfl, rfl, by rw [markE_get _ hk', hq], rfl, rfl, rfl, by omega⟩, trivial⟩ ?_
                    refine ⟨(), trivial, Ent.trans (Ent.ofH ?_) (Ent.el ⟨rfl, rfl, rfl, rfl, rfl, rfl, rfl, trivial⟩)⟩
                    show [(b9, HObj.arr 4 1 3125 ((markE (partP b.n.toNat x p k)).set k (setSeg [B false] 0 (cellsAV (B x.q))))), _] = _
                    rw [hfin x.q (by simp)]
                intro _ _
                refine LWp.seq ?_
                refine LWp.x (gs := []) (hs := []) rfl trivial ?_
                refine LWp.block ?_
                refine LWp.loopN (fun j : Nat => j ≤ b.n.toNat) (fun j => el [(2, .pi b.enc), (3, .pi s.enc), (5, .so b5 3125 3125), (6, I i), (8, .pi x.enc), (9, .so b9 3125 3125), (10, I k), (11, I j)]) (fun j => [(b9, .arr 4 1 3125 (markE (partJ b.n.toNat x p k j))), (b5, .arr 4 1 3125 (markE p))]) (fun _ => []) (fun j => b.n.toNat - j) 0 (by omega)
                  (Ent.el ⟨rfl, rfl, rfl, rfl, rfl, rfl, rfl, rfl, trivial⟩) ?_
                intro j hj
                refine LWp.seq (LWp.seq ?_)
                refine LWp.x (gs := []) (hs := []) rfl trivial ?_
                refine LWp.ite rfl (fun hf => ?_) (fun hf => ?_)
                · simp only [decide_eq_true_eq] at hf
                  have hj' : j < b.n.toNat := by omega
                  refine LWp.skip (LWp.seq (LWp.block (LWp.seq ?_)))
                  refine LWp.x (gs := []) (hs := [.ret (B (bitI x.s j))]) rfl ⟨bit_ev x.s j s0 (by omega) (by omega), trivial⟩ ?_
                  refine LWp.ite rfl (fun hg => ?_) (fun hg => ?_)
                  · rw [bit_gives _ _ s0] at hg
                    have hm : ((k : Int) * 5 + j + 1).toNat = k * 5 + j + 1 := by omega
                    refine LWp.hx (gs := []) (hs := [.stE 0 (k * 5 + j + 1) 0 [B (partJ b.n.toNat x p k j (k * 5 + j + 1))]]) rfl ⟨by omega, by omega, by omega, ⟨by omega, by omega⟩, ⟨rfl, by rw [hm]; rfl, markE_get _ (by omega), rfl, rfl, rfl, by omega⟩, trivial⟩ ?_
                    refine LWp.x (gs := []) (hs := []) rfl ⟨by omega, trivial⟩ ?_
                    refine ⟨j + 1, hj', by omega, Ent.trans (Ent.ofH ?_) (Ent.el ⟨rfl, rfl, rfl, rfl, rfl, rfl, rfl, rfl, trivial⟩)⟩
                    show [(b9, HObj.arr 4 1 3125 ((markE (partJ b.n.toNat x p k j)).set (k * 5 + j + 1) (setSeg [B (partJ b.n.toNat x p k j (k * 5 + j + 1))] 0 (cellsAV (B true))))), _] = _
                    rw [markE_set _ (by omega) true]
                    refine congrArg (fun q => [(b9, HObj.arr 4 1 3125 q), (b5, HObj.arr 4 1 3125 (markE p))]) (markE_congr (fun d _ => ?_))
                    by_cases e : d = k * 5 + j + 1
                    · subst e
                      have e1 : (k * 5 + j + 1 - 1) / 5 = k := by omega
                      have e2 : (k * 5 + j + 1 - 1) % 5 = j := by omega
                      simp only [if_true, partJ, e1, e2, hg]; simp
                    · rw [if_neg e]
                      simp only [partJ]
                      congr 1
                      by_cases e1 : (d - 1) / 5 = k
                      · by_cases e3 : 0 < d
                        · have e2 : decide ((d - 1) % 5 < j + 1) = decide ((d - 1) % 5 < j) := by rw [Bool.eq_iff_iff]; simp; omega
                          rw [e2]
                        · simp [e3]
                      · simp [e1]
                  · rw [bit_gives _ _ s0] at hg
                    refine LWp.skip ?_
                    refine LWp.x (gs := []) (hs := []) rfl ⟨by omega, trivial⟩ ?_
                    refine ⟨j + 1, hj', by omega, Ent.trans (Ent.ofH ?_) (Ent.el ⟨rfl, rfl, rfl, rfl, rfl, rfl, rfl, rfl, trivial⟩)⟩
                    refine congrArg (fun q => [(b9, HObj.arr 4 1 3125 q), (b5, HObj.arr 4 1 3125 (markE p))]) (markE_congr (fun d _ => ?_))
                    simp only [partJ]
                    congr 1
                    by_cases e2 : (d - 1) % 5 = j
                    · rw [e2, hg]; simp
                    · have : decide ((d - 1) % 5 < j + 1) = decide ((d - 1) % 5 < j) := by rw [Bool.eq_iff_iff]; simp; omega
                      rw [this]
                · simp only [decide_eq_false_iff_not] at hf
                  have : j = b.n.toNat := by omega
                  subst this
                  refine LWp.exit ⟨(), trivial, Ent.trans (Ent.ofH ?_) (Ent.el ⟨rfl, rfl, rfl, rfl, rfl, rfl, rfl, trivial⟩)⟩
                  rw [hsu]
            · intro _ _
              refine LWp.x (gs := []) (hs := []) rfl ⟨by omega, trivial⟩ ?_
              exact ⟨k + 1, hk', by omega, Ent.el ⟨rfl, rfl, rfl, rfl, rfl, rfl, rfl, trivial⟩⟩
          · simp only [decide_eq_false_iff_not] at hd
            have : k = 3125 := by omega
            subst this
            exact LWp.exit ⟨(), trivial, Ent.trans (Ent.dropH 1) (Ent.el ⟨rfl, rfl, rfl, rfl, trivial⟩)⟩
        · intro _ _
          refine LWp.x (gs := []) (hs := []) rfl trivial ?_
          refine ⟨b9, trivial, Ent.trans (Ent.ofH ?_) (Ent.el ⟨rfl, rfl, rfl, rfl, trivial⟩)⟩
          rw [hsn]
          exact congrArg (fun q => [(b9, HObj.arr 4 1 3125 q)]) (markE_congr (fun d hd => partP_all hd))
      · intro b9 _
        refine LWp.x (gs := []) (hs := []) rfl ⟨by omega, trivial⟩ ?_
        exact ⟨(i + 1, b9), hc', by simp only; omega, Ent.el ⟨rfl, rfl, rfl, rfl, trivial⟩⟩
    · simp only [decide_eq_false_iff_not] at hc
      have hc' : ¬ i < s.t.length := by have : ¬ ((i : Int) < (s.t.length : Int)) := hc; omega
      refine LWp.exit ⟨b5, trivial, Ent.trans (Ent.ofH ?_) (Ent.el ⟨rfl, trivial⟩)⟩
      rw [List.take_of_length_le (by omega)]
  · intro b5 _
    refine LWp.sx (gs := []) (hs := []) rfl trivial ?_
    refine LWp.ent (Ent.unshare (i := 0) (t := 4) (es := markE (strP b.n.toNat xs)) (b := b5) (cap := 3125) (kk := 1) (T := 4) ?_ rfl) ?_
    · rw [markE_len]; rfl
    exact LWp.ret (retT (.inr rfl) (.lin (upd_same _ _ _) rfl))

/-- Which numbers a spelling of a book can be. -/
def strS (b : Book) (j : Int) : Nat → Bool := match b.ss[j.toNat]? with
  | some s => strP b.n.toNat (spLetters b s)
  | none => fun _ => false
theorem strS_ev {b : Book} (V : Valid b) {j : Int} {s : Spelling} (hs : b.ss[j.toNat]? = some s) : Ev Try.prog 63 [.agg b.enc, .agg s.enc] (.lin 4 1 (markE (strS b j))) := by
  have sp := V.sp s (List.mem_of_getElem? hs)
  obtain ⟨a, ha, hc⟩ := sp.ha
  have n1 := V.n1
  have n4 := V.n4
  have := strings_lin_ev b (by omega) n4 s a sp.a0 ha ((V.alph a (List.mem_of_getElem? ha)).ls (by omega)) sp.t5 hc
  have e : strS b j = strP b.n.toNat (s.t.map fun c => letAt a.ls c.toNat) := by simp only [strS, hs, spLetters, ha]
  rw [e]; exact this

/-- What all of some spellings can be. -/
def shP (b : Book) (l : List Int) : Nat → Bool := fun c => !l.isEmpty && l.all fun j => strS b j c
def andM (q r : Nat → Bool) (k : Nat) : Nat → Bool := fun c => if c < k then q c && r c else q c
theorem shP_snoc (b : Book) (l : List Int) (j : Int) : shP b (l ++ [j]) = fun c => strS b j c && (decide (l.length = 0) || shP b l c) := by
  funext c
  cases l with
  | nil => simp [shP]
  | cons i l => simp [shP, Bool.and_comm, Bool.and_left_comm]

theorem shared_ev {b : Book} (V : Valid b) (l : List Int) (hl : ∀ j ∈ l, 0 ≤ j ∧ j < b.ss.length) : Ev Try.prog 73 [.agg b.enc, ints l] (bools (markL (shP b l))) := by
  refine Ev.freeze (T := 4) ?_
  refine Ev.intro fn73 ?_
  refine LWp.slLen 1 rfl fun hll => ?_
  simp only [List.length_map] at hll
  refine LWp.sx (gs := []) (hs := [.ice]) rfl ⟨⟨rfl, rfl⟩, trivial⟩ ?_
  refine LWp.seq (LWp.ops (WOps.cons (Op1.mslice 3125 rfl rfl rfl rfl (by omega) (by omega) rfl (fun b5 => ?_))))
  rw [List.length_replicate, markE_zero]
  refine WOps.hd (gs := []) (hs := []) rfl trivial ?_
  refine LWp.seq (LWp.seq ?_)
  refine LWp.x (gs := []) (hs := []) rfl trivial ?_
  refine LWp.blockT (fun _ : Nat × Nat => True) (fun x => el [(5, .so x.1 3125 x.2)]) (fun x => [(x.1, .arr 4 1 x.2 (markE (shP b l)))]) (fun _ => []) ?_ ?_
  · refine LWp.loopN (X := Nat × Nat × Nat) (fun x => x.1 ≤ l.length) (fun x => el [(1, ints l), (2, .pi b.enc), (5, .so x.2.1 3125 x.2.2), (6, I x.1)]) (fun x => [(x.2.1, .arr 4 1 x.2.2 (markE (shP b (l.take x.1))))]) (fun _ => []) (fun x => l.length - x.1) (0, b5, 3125) (by simp)
      (Ent.trans (Ent.ofH ?_) (Ent.el ⟨rfl, rfl, rfl, rfl, trivial⟩)) ?_
    · have e : shP b (l.take 0) = fun _ => false := by funext c; simp [shP]
      rw [e]
    rintro ⟨i, b5, cap5⟩ hi
    simp only at hi ⊢
    refine LWp.seq (LWp.seq ?_)
    refine LWp.x (gs := []) (hs := []) rfl trivial ?_
    refine LWp.ite rfl (fun hc => ?_) (fun hc => ?_)
    · simp only [List.length_map, decide_eq_true_eq, Int.ofNat_lt] at hc
      obtain ⟨j, hj⟩ := ex_get hc
      obtain ⟨j0, j1⟩ := hl j (List.mem_of_getElem? hj)
      have hjl : j.toNat < b.ss.length := by omega
      obtain ⟨s, hs⟩ := ex_get hjl
      have hsn : shP b (l.take (i + 1)) = fun c => strS b j c && (decide (i = 0) || shP b (l.take i) c) := by
        rw [List.take_add_one, hj]
        show shP b (l.take i ++ [j]) = _
        rw [shP_snoc, List.length_take, Nat.min_eq_left hi]
      generalize hp : shP b (l.take i) = p at hsn
      refine LWp.skip ?_
      refine LWp.blockX (fun _ : Nat × Nat => True) (fun x => el [(1, ints l), (2, .pi b.enc), (5, .so x.1 3125 x.2), (6, I i)]) (fun x => [(x.1, .arr 4 1 x.2 (markE (shP b (l.take (i + 1)))))]) (fun _ => []) ?_ ?_
      · refine LWp.sd (gs := []) (hs := [.cells [I j], .cells s.enc, .ret (.lin 4 1 (markE (strS b j)))]) hmix rfl (by kernel_rfl) ⟨⟨by omega, by simp [hj]⟩, ⟨j0, by simp [hs]⟩, strS_ev V hs, trivial⟩ ?_
        generalize strS b j = q at hsn
        refine LWp.share (t := 7) rfl (fun h => ?_) (fun b9 cap9 => ?_)
        · have := markE_len q
          rw [h] at this; simp at this
        rw [markE_len]
        refine LWp.seq (LWp.seq ?_)
        refine LWp.x (gs := []) (hs := []) rfl trivial ?_
        refine LWp.blockT (fun _ : Unit => True) (fun _ => el [(1, ints l), (2, .pi b.enc), (6, I i), (7, .so b9 3125 cap9)]) (fun _ => [(b9, .arr 4 1 cap9 (markE (shP b (l.take (i + 1)))))]) (fun _ => []) ?_ ?_
        · refine LWp.loopN (fun k : Nat => k ≤ 3125) (fun k => el [(1, ints l), (2, .pi b.enc), (5, .so b5 3125 cap5), (6, I i), (7, .so b9 3125 cap9), (8, I k)]) (fun k => [(b9, .arr 4 1 cap9 (markE (andM q (fun c => decide (i = 0) || p c) k))), (b5, .arr 4 1 cap5 (markE p))]) (fun _ => []) (fun k => 3125 - k) 0 (by omega)
            (Ent.trans (Ent.ofH ?_) (Ent.el ⟨rfl, rfl, rfl, rfl, rfl, rfl, trivial⟩)) ?_
          · have e : andM q (fun c => decide (i = 0) || p c) 0 = q := by funext c; simp [andM]
            rw [e]
          intro k hk
          refine LWp.seq (LWp.seq ?_)
          refine LWp.x (gs := []) (hs := []) rfl trivial ?_
          refine LWp.ite rfl (fun hd => ?_) (fun hd => ?_)
          · simp only [decide_eq_true_eq] at hd
            have hk' : k < 3125 := by omega
            refine LWp.skip ?_
            refine LWp.blockX (fun _ : Unit => True) (fun _ => el [(1, ints l), (2, .pi b.enc), (5, .so b5 3125 cap5), (6, I i), (7, .so b9 3125 cap9), (8, I k)]) (fun _ => [(b9, .arr 4 1 cap9 (markE (andM q (fun c => decide (i = 0) || p c) (k + 1)))), (b5, .arr 4 1 cap5 (markE p))]) (fun _ => []) ?_ ?_
            · generalize hr : (fun c => decide (i = 0) || p c) = r
              have hak : andM q r k k = q k := by simp [andM]
              have hfin : ∀ v : Bool, v = (q k && r k) → (markE (andM q r k)).set k (setSeg [B (andM q r k k)] 0 (cellsAV (B v))) = markE (andM q r (k + 1)) := by
                intro v hv
                rw [markE_set _ hk' v]
                refine markE_congr (fun d _ => ?_)
                by_cases e : d = k
                · subst e; simp [andM, hv]
                · have e2 : (d < k + 1) ↔ (d < k) := by omega
                  simp [andM, e, e2]
              rw [hak] at hfin
              have hg : (markE (andM q r k))[k]? = some [B (q k)] := by rw [markE_get _ hk', hak]
              cases hq : q k with
              | false =>
                rw [hq] at hfin hg
                refine LWp.hx (gs := [(36, false)]) (hs := [.elt 0 k 0 [B false], .stE 0 k 0 [B false]]) rfl ⟨⟨by omega, by omega⟩, ⟨rfl, rfl, hg⟩, rfl, rfl, rfl, rfl, rfl, ⟨by omega, by omega⟩, ⟨rfl, rfl, hg, rfl, rfl, rfl, by omega⟩, trivial⟩ ?_
                refine ⟨(), trivial, Ent.trans (Ent.ofH ?_) (Ent.el ⟨rfl, rfl, rfl, rfl, rfl, rfl, trivial⟩)⟩
                show [(b9, HObj.arr 4 1 cap9 ((markE (andM q r k)).set k (setSeg [B false] 0 (cellsAV (B false))))), _] = _
                rw [hfin false (by simp)]
              | true =>
                rw [hq] at hfin hg
                by_cases hi0 : i = 0
                · have h39 : ((i : Int) == 0) = true := by simp [hi0]
                  refine LWp.hx (gs := [(36, true), (39, true)]) (hs := [.elt 0 k 0 [B true], .stE 0 k 0 [B true]]) rfl ⟨⟨by omega, by omega⟩, ⟨rfl, rfl, hg⟩, rfl, rfl, rfl, h39, h39, h39, h39, ⟨rfl, h39⟩, rfl, ⟨by omega, by omega⟩, ⟨rfl, rfl, hg, rfl, rfl, rfl, by omega⟩, trivial⟩ ?_
                  refine ⟨(), trivial, Ent.trans (Ent.ofH ?_) (Ent.el ⟨rfl, rfl, rfl, rfl, rfl, rfl, trivial⟩)⟩
                  show [(b9, HObj.arr 4 1 cap9 ((markE (andM q r k)).set k (setSeg [B true] 0 (cellsAV (B true))))), _] = _
                  rw [hfin true (by rw [← hr]; simp [hi0])]
                · have hpk := markE_get p hk'
                  have h39 : ((i : Int) == 0) = false := by simp [hi0]
                  refine LWp.hx (gs := [(36, true), (39, false)]) (hs := [.elt 0 k 0 [B true], .elt 1 k 0 [B (p k)], .stE 0 k 0 [B true]]) rfl ⟨⟨by omega, by omega⟩, ⟨rfl, rfl, hg⟩, rfl, rfl, rfl, h39, h39, ⟨h39, by omega, by omega⟩, ⟨h39, rfl, rfl, hpk⟩, ⟨rfl, h39⟩, rfl, ⟨by omega, by omega⟩, ⟨rfl, rfl, hg, rfl, rfl, rfl, by omega⟩, trivial⟩ ?_
                  refine ⟨(), trivial, Ent.trans (Ent.ofH ?_) (Ent.el ⟨rfl, rfl, rfl, rfl, rfl, rfl, trivial⟩)⟩
                  show [(b9, HObj.arr 4 1 cap9 ((markE (andM q r k)).set k (setSeg [B true] 0 (cellsAV (B (p k)))))), _] = _
                  rw [hfin (p k) (by rw [← hr]; simp [hi0])]
            · intro _ _
              refine LWp.x (gs := []) (hs := []) rfl ⟨by omega, trivial⟩ ?_
              exact ⟨k + 1, hk', by omega, Ent.el ⟨rfl, rfl, rfl, rfl, rfl, rfl, trivial⟩⟩
          · simp only [decide_eq_false_iff_not] at hd
            have : k = 3125 := by omega
            subst this
            refine LWp.exit ⟨(), trivial, Ent.trans (Ent.dropH 1) (Ent.trans (Ent.ofH ?_) (Ent.el ⟨rfl, rfl, rfl, rfl, trivial⟩))⟩
            rw [hsn]
            refine congrArg (fun q => [(b9, HObj.arr 4 1 cap9 q)]) (markE_congr (fun d hd => ?_))
            simp [andM, hd]
        · intro _ _
          refine LWp.x (gs := []) (hs := []) rfl trivial ?_
          exact ⟨(b9, cap9), trivial, Ent.el ⟨rfl, rfl, rfl, rfl, trivial⟩⟩
      · rintro ⟨b9, cap9⟩ _
        refine LWp.x (gs := []) (hs := []) rfl ⟨by omega, trivial⟩ ?_
        exact ⟨(i + 1, b9, cap9), hc, by simp only; omega, Ent.el ⟨rfl, rfl, rfl, rfl, trivial⟩⟩
    · simp only [List.length_map, decide_eq_false_iff_not, Int.ofNat_lt] at hc
      refine LWp.exit ⟨(b5, cap5), trivial, Ent.trans (Ent.ofH ?_) (Ent.el ⟨rfl, trivial⟩)⟩
      rw [List.take_of_length_le (by omega)]
  · rintro ⟨b5, cap5⟩ _
    refine LWp.sx (gs := []) (hs := []) rfl trivial ?_
    refine LWp.ent (Ent.unshare (i := 0) (t := 4) (es := markE (shP b l)) (b := b5) (cap := cap5) (kk := 1) (T := 4) ?_ rfl) ?_
    · rw [markE_len]; rfl
    exact LWp.ret (retT (.inr rfl) (.lin (upd_same _ _ _) rfl))
end Go.Px

