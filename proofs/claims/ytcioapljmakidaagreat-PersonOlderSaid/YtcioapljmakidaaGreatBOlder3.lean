/- Part 3 of the proof of the statement PersonOlder (contracts of the functions that it alone wants). No conditions. -/
import Derived.Test.YtcioapljmakidaaGreatBOlder2
namespace Go.Px
open Go.Proofs
theorem markL_len (p : Nat → Bool) : (markL p).length = 3125 := by simp [markL]
abbrev markE (p : Nat → Bool) : List (List AV) := (markL p).map fun x => [B x]
theorem markE_get (p : Nat → Bool) {c : Nat} (h : c < 3125) : (markE p)[c]? = some [B (p c)] := by
  show ((markL p).map _)[c]? = _
  rw [List.getElem?_map, markL_get p h]; rfl
theorem markE_len (p : Nat → Bool) : (markE p).length = 3125 := by
  show ((markL p).map _).length = _
  rw [List.length_map, markL_len]
theorem markL_set (p : Nat → Bool) {m : Nat} (h : m < 3125) (v : Bool) : (markL p).set m v = markL (fun c => if c = m then v else p c) := by
  apply List.ext_getElem?
  intro i
  rw [List.getElem?_set]
  by_cases hi : i < 3125
  · by_cases e : m = i
    · subst e; rw [if_pos rfl, if_pos (by rw [markL_len]; exact h), markL_get _ h, if_pos rfl]
    · rw [if_neg e, markL_get _ hi, markL_get _ hi, if_neg (fun e' => e e'.symm)]
  · have h1 : ∀ q, (markL q)[i]? = none := fun q => List.getElem?_eq_none (by rw [markL_len]; omega)
    rw [h1, h1]
    split
    · split
      · rename_i e _; omega
      · rfl
    · rfl
theorem markE_set (p : Nat → Bool) {m : Nat} (h : m < 3125) (v : Bool) : (markE p).set m (setSeg [B (p m)] 0 (cellsAV (B v))) = markE (fun c => if c = m then v else p c) := by
  show ((markL p).map _).set m _ = (markL _).map _
  rw [← markL_set p h v, List.map_set]; rfl
theorem markE_congr {p q : Nat → Bool} (h : ∀ c, c < 3125 → p c = q c) : markE p = markE q := by
  have : markL p = markL q := by
    unfold markL
    exact List.map_congr_left (fun c hc => h c (List.mem_range.1 hc))
  show (markL p).map _ = (markL q).map _
  rw [this]
theorem replicate_range {α : Type} (x : α) : ∀ n : Nat, List.replicate n x = (List.range n).map (fun _ => x)
  | 0 => rfl
  | n + 1 => by rw [List.replicate_succ', List.range_succ, List.map_append, replicate_range x n]; rfl
theorem mark_zero (n : Nat) : List.replicate n ([Value.bool false].map AV.v) = ((List.range n).map (fun _ => false)).map (fun x => [B x]) := by
  rw [List.map_map, replicate_range]; rfl
theorem markE_zero : List.replicate 3125 ([Value.bool false].map AV.v) = markE (fun _ => false) := mark_zero 3125
def partP (n : Nat) (x : Letter) (p : Nat → Bool) (k : Nat) : Nat → Bool := fun c => (p c && x.q && decide (c < k)) || (decide (0 < c) && decide ((c - 1) % 5 < n) && givesB x.s (((c - 1) % 5 : Nat) : Int) && p ((c - 1) / 5) && decide ((c - 1) / 5 < k))
def partJ (n : Nat) (x : Letter) (p : Nat → Bool) (k j : Nat) : Nat → Bool := fun c => partP n x p k c || (decide (c = k) && x.q) || (decide (0 < c) && decide ((c - 1) / 5 = k) && decide ((c - 1) % 5 < j) && givesB x.s (((c - 1) % 5 : Nat) : Int))
theorem partP_zero (n : Nat) (x : Letter) (p : Nat → Bool) : partP n x p 0 = fun _ => false := by
  funext c; simp [partP]
theorem bool_no : ∀ pc q a b z p5 a5 b5 : Bool, (pc && b) = false → (p5 && b5) = false → ((pc && q && (a || b)) || (z && p5 && (a5 || b5))) = ((pc && q && a) || (z && p5 && a5)) := by decide
theorem bool_yes : ∀ pc q a b z p5 a5 b5 : Bool, (pc && b) = b → (p5 && b5) = b5 → ((pc && q && (a || b)) || (z && p5 && (a5 || b5))) = (((pc && q && a) || (z && p5 && a5)) || (b && q) || (z && b5)) := by decide
theorem dec_succ (c k : Nat) : decide (c < k + 1) = (decide (c < k) || decide (c = k)) := by
  rw [Bool.eq_iff_iff]; simp; omega
theorem partP_no {n : Nat} {x : Letter} {p : Nat → Bool} {k : Nat} (h : p k = false) : partP n x p (k + 1) = partP n x p k := by
  funext c
  simp only [partP, dec_succ]
  refine bool_no _ _ _ _ _ _ _ _ ?_ ?_
  · by_cases e : c = k
    · rw [e, h]; rfl
    · simp [e]
  · by_cases e : (c - 1) / 5 = k
    · rw [e, h]; rfl
    · simp [e]
theorem partP_yes {n : Nat} {x : Letter} {p : Nat → Bool} {k : Nat} (h : p k = true) : partP n x p (k + 1) = partJ n x p k n := by
  funext c
  have e0 : (decide (0 < c) && decide ((c - 1) / 5 = k) && decide ((c - 1) % 5 < n) && givesB x.s (((c - 1) % 5 : Nat) : Int)) = (decide (0 < c) && decide ((c - 1) % 5 < n) && givesB x.s (((c - 1) % 5 : Nat) : Int) && decide ((c - 1) / 5 = k)) := by
    generalize decide (0 < c) = a1
    generalize decide ((c - 1) / 5 = k) = a2
    generalize decide ((c - 1) % 5 < n) = a3
    generalize givesB x.s (((c - 1) % 5 : Nat) : Int) = a4
    cases a1 <;> cases a2 <;> cases a3 <;> cases a4 <;> rfl
  simp only [partP, partJ, dec_succ, e0]
  refine bool_yes _ _ _ _ _ _ _ _ ?_ ?_
  · by_cases e : c = k
    · rw [e, h]; simp
    · simp [e]
  · by_cases e : (c - 1) / 5 = k
    · rw [e, h]; simp
    · simp [e]
theorem partP_all {n : Nat} {x : Letter} {p : Nat → Bool} {c : Nat} (h : c < 3125) : partP n x p 3125 c = stepP n x p c := by
  have h2 : (c - 1) / 5 < 3125 := by omega
  simp [partP, stepP, h, h2]
theorem stepP_lt {n : Nat} (hn : n ≤ 4) {x : Letter} {p : Nat → Bool} {m : Nat} (h : ∀ c, p c = true → c < 5 ^ m) : ∀ c, stepP n x p c = true → c < 5 ^ (m + 1) := by
  intro c hc
  rw [Nat.pow_succ]
  simp only [stepP, Bool.or_eq_true, Bool.and_eq_true, decide_eq_true_eq] at hc
  rcases hc with ⟨h1, _⟩ | ⟨⟨⟨h1, h2⟩, _⟩, h3⟩
  · have := h c h1; omega
  · have := h _ h3
    omega
theorem strP_lt {n : Nat} (hn : n ≤ 4) (xs : List Letter) : ∀ c, strP n xs c = true → c < 5 ^ xs.length := by
  have key : ∀ (ys : List Letter) (c : Nat), strP n ys.reverse c = true → c < 5 ^ ys.length := by
    intro ys
    induction ys with
    | nil => intro c h; simp [strP] at h; simp [h]
    | cons y ys ih =>
      intro c h
      rw [List.reverse_cons, strP_snoc] at h
      exact stepP_lt hn ih c h
  have := key xs.reverse
  rw [List.reverse_reverse, List.length_reverse] at this
  exact this
theorem strings_lin_ev (b : Book) (hn0 : 0 ≤ b.n) (hn4 : b.n ≤ 4) (s : Spelling) (a : Alph) (ha0 : 0 ≤ s.a) (ha : b.al[s.a.toNat]? = some a) (hl : LsOK a.ls) (ht5 : s.t.length ≤ 5) (hin : ∀ c ∈ s.t, 0 ≤ indexC a.ls c.toNat) :
    Ev Tryz.prog 117 [.agg b.enc, .agg s.enc] (.lin 4 1 (markE (strP b.n.toNat (s.t.map fun c => letAt a.ls c.toNat)))) := by
  generalize hxs : (s.t.map fun c => letAt a.ls c.toNat) = xs
  have hxl : xs.length = s.t.length := by rw [← hxs]; simp
  refine Ev.intro fn117 ?_
  refine LWp.sx (gs := []) (hs := [.ice, .ice]) rfl ⟨⟨rfl, rfl⟩, ⟨rfl, rfl⟩, trivial⟩ ?_
  refine LWp.seq (LWp.ops (WOps.cons (Op1.mslice 3125 rfl rfl rfl rfl (by omega) (by omega) rfl (fun b5 => ?_))))
  rw [List.length_replicate, markE_zero]
  refine WOps.hd (gs := []) (hs := []) rfl trivial ?_
  refine LWp.seq ?_
  refine LWp.hx (gs := []) (hs := [.stE 0 0 0 [B false]]) rfl ⟨⟨by omega, by omega⟩, ⟨rfl, rfl, markE_get _ (by omega), rfl, rfl, rfl, by omega⟩, trivial⟩ ?_
  refine LWp.ent (Ent.ofH (H' := [(b5, .arr 4 1 3125 (markE (strP b.n.toNat (xs.take 0))))]) ?_) ?_
  · have e1 : (markE (fun _ => false)).set 0 (setSeg [B false] 0 (cellsAV (B true))) = markE (strP b.n.toNat (xs.take 0)) := by
      have := markE_set (fun _ => false) (m := 0) (by omega) true
      rw [this]
      refine markE_congr (fun c _ => ?_)
      by_cases e : c = 0 <;> simp [strP, e]
    show [(b5, HObj.arr 4 1 3125 ((markE (fun _ => false)).set 0 (setSeg [B false] 0 (cellsAV (B true)))))] = _
    rw [e1]
  refine LWp.seq (LWp.seq ?_)
  refine LWp.x (gs := []) (hs := []) rfl trivial ?_
  refine LWp.blockT (fun _ : Nat => True) (fun b5 => el [(5, .so b5 3125 3125)]) (fun b5 => [(b5, .arr 4 1 3125 (markE (strP b.n.toNat xs)))]) (fun _ => []) ?_ ?_
  · refine LWp.loopN (X := Nat × Nat) (fun x => x.1 ≤ s.t.length) (fun x => el [(2, .pi b.enc), (3, .pi s.enc), (5, .so x.2 3125 3125), (6, I x.1)]) (fun x => [(x.2, .arr 4 1 3125 (markE (strP b.n.toNat (xs.take x.1))))]) (fun _ => []) (fun x => s.t.length - x.1) (0, b5) (by simp)
      (Ent.el ⟨rfl, rfl, rfl, rfl, trivial⟩) ?_
    rintro ⟨i, b5⟩ hi
    simp only at hi ⊢
    refine LWp.seq (LWp.seq ?_)
    refine LWp.x (gs := []) (hs := []) rfl trivial ?_
    refine LWp.ite rfl (fun hc => ?_) (fun hc => ?_)
    · simp only [decide_eq_true_eq] at hc
      have hc' : i < s.t.length := by have : ((i : Int) < (s.t.length : Int)) := hc; omega
      obtain ⟨c, hx⟩ := ex_get hc'
      have hidx := hin c (List.mem_of_getElem? hx)
      obtain ⟨_, x, hgx, _⟩ := idxF_lt _ a.ls 0 (by omega) hidx
      rw [Int.sub_zero] at hgx
      have hgx : a.ls[(indexC a.ls c.toNat).toNat]? = some x := hgx
      have hxx : xs[i]? = some x := by
        rw [← hxs, List.getElem?_map, hx]
        simp only [Option.map_some, letAt, hgx]; rfl
      obtain ⟨_, _, s0, s1⟩ := hl.2 x (List.mem_of_getElem? hgx)
      have hpl : ∀ d, strP b.n.toNat (xs.take i) d = true → d < 625 := by
        intro d hd
        have h1 := strP_lt (n := b.n.toNat) (by omega) (xs.take i) d hd
        have h2 : (xs.take i).length = i := by rw [List.length_take]; omega
        rw [h2] at h1
        have h3 : 5 ^ i ≤ 5 ^ 4 := Nat.pow_le_pow_right (by omega) (by omega)
        omega
      have hsn : strP b.n.toNat (xs.take (i + 1)) = stepP b.n.toNat x (strP b.n.toNat (xs.take i)) := by
        rw [List.take_add_one, hxx]
        exact strP_snoc _ _ _
      generalize hp : strP b.n.toNat (xs.take i) = p at hpl hsn
      refine LWp.skip ?_
      refine LWp.blockX (fun _ : Nat => True) (fun b9 => el [(2, .pi b.enc), (3, .pi s.enc), (5, .so b9 3125 3125), (6, I i)]) (fun b9 => [(b9, .arr 4 1 3125 (markE (strP b.n.toNat (xs.take (i + 1)))))]) (fun _ => []) ?_ ?_
      · refine LWp.sx (gs := []) (hs := [.cells a.enc, .lin]) rfl ⟨⟨ha0, by simp [ha]⟩, rfl, ⟨rfl, rfl, rfl, by decide⟩, trivial⟩ ?_
        refine LWp.ent (Ent.freezeLbox (t := 7) rfl) ?_
        refine LWp.sd (gs := []) (hs := [.byte c, .ret (I (indexC a.ls c.toNat)), .cells x.enc, .lin]) hmix rfl (by kernel_rfl) ⟨⟨by omega, by simpa using hx⟩, rletter_ev a c.toNat hl.1, ⟨hidx, by simp [hgx]⟩, rfl, ⟨rfl, rfl, rfl, by decide⟩, trivial⟩ ?_
        refine LWp.ent (Ent.freezeLbox (t := 8) rfl) ?_
        refine LWp.seq (LWp.ops (WOps.cons (Op1.mslice 3125 rfl rfl rfl rfl (by omega) (by omega) rfl (fun b9 => ?_))))
        rw [List.length_replicate, markE_zero]
        refine WOps.hd (gs := []) (hs := []) rfl trivial ?_
        refine LWp.seq (LWp.seq ?_)
        refine LWp.x (gs := []) (hs := []) rfl trivial ?_
        refine LWp.blockT (fun _ : Unit => True) (fun _ => el [(2, .pi b.enc), (3, .pi s.enc), (6, I i), (9, .so b9 3125 3125)]) (fun _ => [(b9, .arr 4 1 3125 (markE (partP b.n.toNat x p 3125)))]) (fun _ => []) ?_ ?_
        · refine LWp.loopN (fun k : Nat => k ≤ 3125) (fun k => el [(2, .pi b.enc), (3, .pi s.enc), (5, .so b5 3125 3125), (6, I i), (8, .pi x.enc), (9, .so b9 3125 3125), (10, I k)]) (fun k => [(b9, .arr 4 1 3125 (markE (partP b.n.toNat x p k))), (b5, .arr 4 1 3125 (markE p))]) (fun _ => []) (fun k => 3125 - k) 0 (by omega)
            (Ent.trans (Ent.ofH (by rw [partP_zero])) (Ent.el ⟨rfl, rfl, rfl, rfl, rfl, rfl, rfl, trivial⟩)) ?_
          intro k hk
          refine LWp.seq (LWp.seq ?_)
          refine LWp.x (gs := []) (hs := []) rfl trivial ?_
          refine LWp.ite rfl (fun hd => ?_) (fun hd => ?_)
          · simp only [decide_eq_true_eq] at hd
            have hk' : k < 3125 := by omega
            refine LWp.skip ?_
            refine LWp.blockX (fun _ : Unit => True) (fun _ => el [(2, .pi b.enc), (3, .pi s.enc), (5, .so b5 3125 3125), (6, I i), (8, .pi x.enc), (9, .so b9 3125 3125), (10, I k)]) (fun _ => [(b9, .arr 4 1 3125 (markE (partP b.n.toNat x p (k + 1)))), (b5, .arr 4 1 3125 (markE p))]) (fun _ => []) ?_ ?_
            · refine LWp.seq (LWp.seq ?_)
              refine LWp.x (gs := []) (hs := [.elt 1 k 0 [B (p k)]]) rfl ⟨⟨by omega, by omega⟩, ⟨rfl, rfl, markE_get p hk'⟩, trivial⟩ ?_
              refine LWp.ite rfl (fun he => ?_) (fun he => ?_)
              · simp only [Bool.not_eq_true'] at he
                refine LWp.exit ⟨(), trivial, Ent.trans (Ent.ofH ?_) (Ent.el ⟨rfl, rfl, rfl, rfl, rfl, rfl, rfl, trivial⟩)⟩
                rw [partP_no he]
              · simp only [Bool.not_eq_false'] at he
                have hk6 := hpl k he
                have hsu := partP_yes (n := b.n.toNat) (x := x) he
                refine LWp.skip ?_
                refine LWp.cutX (fun _ : Unit => True) (fun _ => el [(2, .pi b.enc), (3, .pi s.enc), (5, .so b5 3125 3125), (6, I i), (8, .pi x.enc), (9, .so b9 3125 3125), (10, I k)]) (fun _ => [(b9, .arr 4 1 3125 (markE (partJ b.n.toNat x p k 0))), (b5, .arr 4 1 3125 (markE p))]) (fun _ => []) ?_ ?_
                · have hfin : ∀ v : Bool, v = (partP b.n.toNat x p k k || x.q) → (markE (partP b.n.toNat x p k)).set k (setSeg [B (partP b.n.toNat x p k k)] 0 (cellsAV (B v))) = markE (partJ b.n.toNat x p k 0) := by
                    intro v hv
                    rw [markE_set _ hk' v]
                    refine markE_congr (fun d _ => ?_)
                    by_cases e : d = k
                    · subst e; simp [partJ, hv]
                    · simp [partJ, e]
                  cases hq : partP b.n.toNat x p k k with
                  | true =>
                    rw [hq] at hfin
                    refine LWp.hx (gs := [(54, true)]) (hs := [.elt 0 k 0 [B true], .stE 0 k 0 [B true]]) rfl ⟨⟨by omega, by omega⟩, ⟨rfl, rfl, by rw [markE_get _ hk', hq]⟩, rfl, rfl, rfl, ⟨by omega, by omega⟩, ⟨rfl, rfl, by rw [markE_get _ hk', hq], rfl, rfl, rfl, by omega⟩, trivial⟩ ?_
                    refine ⟨(), trivial, Ent.trans (Ent.ofH ?_) (Ent.el ⟨rfl, rfl, rfl, rfl, rfl, rfl, rfl, trivial⟩)⟩
                    show [(b9, HObj.arr 4 1 3125 ((markE (partP b.n.toNat x p k)).set k (setSeg [B true] 0 (cellsAV (B true))))), _] = _
                    rw [hfin true (by simp)]
                  | false =>
                    rw [hq] at hfin
                    refine LWp.hx (gs := [(54, false)]) (hs := [.elt 0 k 0 [B false], .stE 0 k 0 [B false]]) rfl ⟨⟨by omega, by omega⟩, ⟨rfl, rfl, by rw [markE_get _ hk', hq]⟩, rfl, rfl, rfl, ⟨by omega, by omega⟩, ⟨rfl, rfl, by rw [markE_get _ hk', hq], rfl, rfl, rfl, by omega⟩, trivial⟩ ?_
                    refine ⟨(), trivial, Ent.trans (Ent.ofH ?_) (Ent.el ⟨rfl, rfl, rfl, rfl, rfl, rfl, rfl, trivial⟩)⟩
                    show [(b9, HObj.arr 4 1 3125 ((markE (partP b.n.toNat x p k)).set k (setSeg [B false] 0 (cellsAV (B x.q))))), _] = _
                    rw [hfin x.q (by simp)]
                intro _ _
                refine LWp.seq ?_
                refine LWp.x (gs := []) (hs := []) rfl trivial ?_
                refine LWp.block ?_
                refine LWp.loopN (fun j : Nat => j ≤ b.n.toNat) (fun j => el [(2, .pi b.enc), (3, .pi s.enc), (5, .so b5 3125 3125), (6, I i), (8, .pi x.enc), (9, .so b9 3125 3125), (10, I k), (11, I j)]) (fun j => [(b9, .arr 4 1 3125 (markE (partJ b.n.toNat x p k j))), (b5, .arr 4 1 3125 (markE p))]) (fun _ => []) (fun j => b.n.toNat - j) 0 (by omega)
                  (Ent.el ⟨rfl, rfl, rfl, rfl, rfl, rfl, rfl, rfl, trivial⟩) ?_
                intro j hj
                refine LWp.seq (LWp.seq ?_)
                refine LWp.x (gs := []) (hs := []) rfl trivial ?_
                refine LWp.ite rfl (fun hf => ?_) (fun hf => ?_)
                · simp only [decide_eq_true_eq] at hf
                  have hj' : j < b.n.toNat := by omega
                  refine LWp.skip (LWp.seq (LWp.block (LWp.seq ?_)))
                  refine LWp.x (gs := []) (hs := [.ret (B (bitI x.s j))]) rfl ⟨bit_ev x.s j s0 (by omega) (by omega), trivial⟩ ?_
                  refine LWp.ite rfl (fun hg => ?_) (fun hg => ?_)
                  · rw [bit_gives _ _ s0] at hg
                    have hm : ((k : Int) * 5 + j + 1).toNat = k * 5 + j + 1 := by omega
                    refine LWp.hx (gs := []) (hs := [.stE 0 (k * 5 + j + 1) 0 [B (partJ b.n.toNat x p k j (k * 5 + j + 1))]]) rfl ⟨by omega, by omega, by omega, ⟨by omega, by omega⟩, ⟨rfl, by rw [hm]; rfl, markE_get _ (by omega), rfl, rfl, rfl, by omega⟩, trivial⟩ ?_
                    refine LWp.x (gs := []) (hs := []) rfl ⟨by omega, trivial⟩ ?_
                    refine ⟨j + 1, hj', by omega, Ent.trans (Ent.ofH ?_) (Ent.el ⟨rfl, rfl, rfl, rfl, rfl, rfl, rfl, rfl, trivial⟩)⟩
                    show [(b9, HObj.arr 4 1 3125 ((markE (partJ b.n.toNat x p k j)).set (k * 5 + j + 1) (setSeg [B (partJ b.n.toNat x p k j (k * 5 + j + 1))] 0 (cellsAV (B true))))), _] = _
                    rw [markE_set _ (by omega) true]
                    refine congrArg (fun q => [(b9, HObj.arr 4 1 3125 q), (b5, HObj.arr 4 1 3125 (markE p))]) (markE_congr (fun d _ => ?_))
                    by_cases e : d = k * 5 + j + 1
                    · subst e
                      have e1 : (k * 5 + j + 1 - 1) / 5 = k := by omega
                      have e2 : (k * 5 + j + 1 - 1) % 5 = j := by omega
                      simp only [if_true, partJ, e1, e2, hg]; simp
                    · rw [if_neg e]
                      simp only [partJ]
                      congr 1
                      by_cases e1 : (d - 1) / 5 = k
                      · by_cases e3 : 0 < d
                        · have e2 : decide ((d - 1) % 5 < j + 1) = decide ((d - 1) % 5 < j) := by rw [Bool.eq_iff_iff]; simp; omega
                          rw [e2]
                        · simp [e3]
                      · simp [e1]
                  · rw [bit_gives _ _ s0] at hg
                    refine LWp.skip ?_
                    refine LWp.x (gs := []) (hs := []) rfl ⟨by omega, trivial⟩ ?_
                    refine ⟨j + 1, hj', by omega, Ent.trans (Ent.ofH ?_) (Ent.el ⟨rfl, rfl, rfl, rfl, rfl, rfl, rfl, rfl, trivial⟩)⟩
                    refine congrArg (fun q => [(b9, HObj.arr 4 1 3125 q), (b5, HObj.arr 4 1 3125 (markE p))]) (markE_congr (fun d _ => ?_))
                    simp only [partJ]
                    congr 1
                    by_cases e2 : (d - 1) % 5 = j
                    · rw [e2, hg]; simp
                    · have : decide ((d - 1) % 5 < j + 1) = decide ((d - 1) % 5 < j) := by rw [Bool.eq_iff_iff]; simp; omega
                      rw [this]
                · simp only [decide_eq_false_iff_not] at hf
                  have : j = b.n.toNat := by omega
                  subst this
                  refine LWp.exit ⟨(), trivial, Ent.trans (Ent.ofH ?_) (Ent.el ⟨rfl, rfl, rfl, rfl, rfl, rfl, rfl, trivial⟩)⟩
                  rw [hsu]
            · intro _ _
              refine LWp.x (gs := []) (hs := []) rfl ⟨by omega, trivial⟩ ?_
              exact ⟨k + 1, hk', by omega, Ent.el ⟨rfl, rfl, rfl, rfl, rfl, rfl, rfl, trivial⟩⟩
          · simp only [decide_eq_false_iff_not] at hd
            have : k = 3125 := by omega
            subst this
            exact LWp.exit ⟨(), trivial, Ent.trans (Ent.dropH 1) (Ent.el ⟨rfl, rfl, rfl, rfl, trivial⟩)⟩
        · intro _ _
          refine LWp.x (gs := []) (hs := []) rfl trivial ?_
          refine ⟨b9, trivial, Ent.trans (Ent.ofH ?_) (Ent.el ⟨rfl, rfl, rfl, rfl, trivial⟩)⟩
          rw [hsn]
          exact congrArg (fun q => [(b9, HObj.arr 4 1 3125 q)]) (markE_congr (fun d hd => partP_all hd))
      · intro b9 _
        refine LWp.x (gs := []) (hs := []) rfl ⟨by omega, trivial⟩ ?_
        exact ⟨(i + 1, b9), hc', by simp only; omega, Ent.el ⟨rfl, rfl, rfl, rfl, trivial⟩⟩
    · simp only [decide_eq_false_iff_not] at hc
      have hc' : ¬ i < s.t.length := by have : ¬ ((i : Int) < (s.t.length : Int)) := hc; omega
      refine LWp.exit ⟨b5, trivial, Ent.trans (Ent.ofH ?_) (Ent.el ⟨rfl, trivial⟩)⟩
      rw [List.take_of_length_le (by omega)]
  · intro b5 _
    refine LWp.sx (gs := []) (hs := []) rfl trivial ?_
    refine LWp.ent (Ent.unshare (i := 0) (t := 4) (es := markE (strP b.n.toNat xs)) (b := b5) (cap := 3125) (kk := 1) (T := 4) ?_ rfl) ?_
    · rw [markE_len]; rfl
    exact LWp.ret (retT (.inr rfl) (.lin (upd_same _ _ _) rfl))
theorem strS_ev {b : Book} (V : Valid b) {j : Int} {s : Spelling} (hs : b.ss[j.toNat]? = some s) : Ev Tryz.prog 117 [.agg b.enc, .agg s.enc] (.lin 4 1 (markE (strS b j))) := by
  have sp := V.sp s (List.mem_of_getElem? hs)
  obtain ⟨a, ha, hc⟩ := sp.ha
  have n1 := V.n1
  have n4 := V.n4
  have := strings_lin_ev b (by omega) n4 s a sp.a0 ha ((V.alph a (List.mem_of_getElem? ha)).ls (by omega)) sp.t5 hc
  have e : strS b j = strP b.n.toNat (s.t.map fun c => letAt a.ls c.toNat) := by simp only [strS, hs, spLetters, ha]
  rw [e]; exact this
def andM (q r : Nat → Bool) (k : Nat) : Nat → Bool := fun c => if c < k then q c && r c else q c
theorem shP_snoc (b : Book) (l : List Int) (j : Int) : shP b (l ++ [j]) = fun c => strS b j c && (decide (l.length = 0) || shP b l c) := by
  funext c
  cases l with
  | nil => simp [shP]
  | cons i l => simp [shP, Bool.and_comm, Bool.and_left_comm]
theorem shared_ev {b : Book} (V : Valid b) (l : List Int) (hl : ∀ j ∈ l, 0 ≤ j ∧ j < b.ss.length) : Ev Tryz.prog 85 [.agg b.enc, ints l] (bools (markL (shP b l))) := by
  refine Ev.freeze (T := 4) ?_
  refine Ev.intro fn85 ?_
  refine LWp.slLen 1 rfl fun hll => ?_
  simp only [List.length_map] at hll
  refine LWp.sx (gs := []) (hs := [.ice]) rfl ⟨⟨rfl, rfl⟩, trivial⟩ ?_
  refine LWp.seq (LWp.ops (WOps.cons (Op1.mslice 3125 rfl rfl rfl rfl (by omega) (by omega) rfl (fun b5 => ?_))))
  rw [List.length_replicate, markE_zero]
  refine WOps.hd (gs := []) (hs := []) rfl trivial ?_
  refine LWp.seq (LWp.seq ?_)
  refine LWp.x (gs := []) (hs := []) rfl trivial ?_
  refine LWp.blockT (fun _ : Nat × Nat => True) (fun x => el [(5, .so x.1 3125 x.2)]) (fun x => [(x.1, .arr 4 1 x.2 (markE (shP b l)))]) (fun _ => []) ?_ ?_
  · refine LWp.loopN (X := Nat × Nat × Nat) (fun x => x.1 ≤ l.length) (fun x => el [(1, ints l), (2, .pi b.enc), (5, .so x.2.1 3125 x.2.2), (6, I x.1)]) (fun x => [(x.2.1, .arr 4 1 x.2.2 (markE (shP b (l.take x.1))))]) (fun _ => []) (fun x => l.length - x.1) (0, b5, 3125) (by simp)
      (Ent.trans (Ent.ofH ?_) (Ent.el ⟨rfl, rfl, rfl, rfl, trivial⟩)) ?_
    · have e : shP b (l.take 0) = fun _ => false := by funext c; simp [shP]
      rw [e]
    rintro ⟨i, b5, cap5⟩ hi
    simp only at hi ⊢
    refine LWp.seq (LWp.seq ?_)
    refine LWp.x (gs := []) (hs := []) rfl trivial ?_
    refine LWp.ite rfl (fun hc => ?_) (fun hc => ?_)
    · simp only [List.length_map, decide_eq_true_eq, Int.ofNat_lt] at hc
      obtain ⟨j, hj⟩ := ex_get hc
      obtain ⟨j0, j1⟩ := hl j (List.mem_of_getElem? hj)
      have hjl : j.toNat < b.ss.length := by omega
      obtain ⟨s, hs⟩ := ex_get hjl
      have hsn : shP b (l.take (i + 1)) = fun c => strS b j c && (decide (i = 0) || shP b (l.take i) c) := by
        rw [List.take_add_one, hj]
        show shP b (l.take i ++ [j]) = _
        rw [shP_snoc, List.length_take, Nat.min_eq_left hi]
      generalize hp : shP b (l.take i) = p at hsn
      refine LWp.skip ?_
      refine LWp.blockX (fun _ : Nat × Nat => True) (fun x => el [(1, ints l), (2, .pi b.enc), (5, .so x.1 3125 x.2), (6, I i)]) (fun x => [(x.1, .arr 4 1 x.2 (markE (shP b (l.take (i + 1)))))]) (fun _ => []) ?_ ?_
      · refine LWp.sd (gs := []) (hs := [.cells [I j], .cells s.enc, .ret (.lin 4 1 (markE (strS b j)))]) hmix rfl (by kernel_rfl) ⟨⟨by omega, by simp [hj]⟩, ⟨j0, by simp [hs]⟩, strS_ev V hs, trivial⟩ ?_
        generalize strS b j = q at hsn
        refine LWp.share (t := 7) rfl (fun h => ?_) (fun b9 cap9 => ?_)
        · have := markE_len q
          rw [h] at this; simp at this
        rw [markE_len]
        refine LWp.seq (LWp.seq ?_)
        refine LWp.x (gs := []) (hs := []) rfl trivial ?_
        refine LWp.blockT (fun _ : Unit => True) (fun _ => el [(1, ints l), (2, .pi b.enc), (6, I i), (7, .so b9 3125 cap9)]) (fun _ => [(b9, .arr 4 1 cap9 (markE (shP b (l.take (i + 1)))))]) (fun _ => []) ?_ ?_
        · refine LWp.loopN (fun k : Nat => k ≤ 3125) (fun k => el [(1, ints l), (2, .pi b.enc), (5, .so b5 3125 cap5), (6, I i), (7, .so b9 3125 cap9), (8, I k)]) (fun k => [(b9, .arr 4 1 cap9 (markE (andM q (fun c => decide (i = 0) || p c) k))), (b5, .arr 4 1 cap5 (markE p))]) (fun _ => []) (fun k => 3125 - k) 0 (by omega)
            (Ent.trans (Ent.ofH ?_) (Ent.el ⟨rfl, rfl, rfl, rfl, rfl, rfl, trivial⟩)) ?_
          · have e : andM q (fun c => decide (i = 0) || p c) 0 = q := by funext c; simp [andM]
            rw [e]
          intro k hk
          refine LWp.seq (LWp.seq ?_)
          refine LWp.x (gs := []) (hs := []) rfl trivial ?_
          refine LWp.ite rfl (fun hd => ?_) (fun hd => ?_)
          · simp only [decide_eq_true_eq] at hd
            have hk' : k < 3125 := by omega
            refine LWp.skip ?_
            refine LWp.blockX (fun _ : Unit => True) (fun _ => el [(1, ints l), (2, .pi b.enc), (5, .so b5 3125 cap5), (6, I i), (7, .so b9 3125 cap9), (8, I k)]) (fun _ => [(b9, .arr 4 1 cap9 (markE (andM q (fun c => decide (i = 0) || p c) (k + 1)))), (b5, .arr 4 1 cap5 (markE p))]) (fun _ => []) ?_ ?_
            · generalize hr : (fun c => decide (i = 0) || p c) = r
              have hak : andM q r k k = q k := by simp [andM]
              have hfin : ∀ v : Bool, v = (q k && r k) → (markE (andM q r k)).set k (setSeg [B (andM q r k k)] 0 (cellsAV (B v))) = markE (andM q r (k + 1)) := by
                intro v hv
                rw [markE_set _ hk' v]
                refine markE_congr (fun d _ => ?_)
                by_cases e : d = k
                · subst e; simp [andM, hv]
                · have e2 : (d < k + 1) ↔ (d < k) := by omega
                  simp [andM, e, e2]
              rw [hak] at hfin
              have hg : (markE (andM q r k))[k]? = some [B (q k)] := by rw [markE_get _ hk', hak]
              cases hq : q k with
              | false =>
                rw [hq] at hfin hg
                refine LWp.hx (gs := [(36, false)]) (hs := [.elt 0 k 0 [B false], .stE 0 k 0 [B false]]) rfl ⟨⟨by omega, by omega⟩, ⟨rfl, rfl, hg⟩, rfl, rfl, rfl, rfl, rfl, ⟨by omega, by omega⟩, ⟨rfl, rfl, hg, rfl, rfl, rfl, by omega⟩, trivial⟩ ?_
                refine ⟨(), trivial, Ent.trans (Ent.ofH ?_) (Ent.el ⟨rfl, rfl, rfl, rfl, rfl, rfl, trivial⟩)⟩
                show [(b9, HObj.arr 4 1 cap9 ((markE (andM q r k)).set k (setSeg [B false] 0 (cellsAV (B false))))), _] = _
                rw [hfin false (by simp)]
              | true =>
                rw [hq] at hfin hg
                by_cases hi0 : i = 0
                · have h39 : ((i : Int) == 0) = true := by simp [hi0]
                  refine LWp.hx (gs := [(36, true), (39, true)]) (hs := [.elt 0 k 0 [B true], .stE 0 k 0 [B true]]) rfl ⟨⟨by omega, by omega⟩, ⟨rfl, rfl, hg⟩, rfl, rfl, rfl, h39, h39, h39, h39, ⟨rfl, h39⟩, rfl, ⟨by omega, by omega⟩, ⟨rfl, rfl, hg, rfl, rfl, rfl, by omega⟩, trivial⟩ ?_
                  refine ⟨(), trivial, Ent.trans (Ent.ofH ?_) (Ent.el ⟨rfl, rfl, rfl, rfl, rfl, rfl, trivial⟩)⟩
                  show [(b9, HObj.arr 4 1 cap9 ((markE (andM q r k)).set k (setSeg [B true] 0 (cellsAV (B true))))), _] = _
                  rw [hfin true (by rw [← hr]; simp [hi0])]
                · have hpk := markE_get p hk'
                  have h39 : ((i : Int) == 0) = false := by simp [hi0]
                  refine LWp.hx (gs := [(36, true), (39, false)]) (hs := [.elt 0 k 0 [B true], .elt 1 k 0 [B (p k)], .stE 0 k 0 [B true]]) rfl ⟨⟨by omega, by omega⟩, ⟨rfl, rfl, hg⟩, rfl, rfl, rfl, h39, h39, ⟨h39, by omega, by omega⟩, ⟨h39, rfl, rfl, hpk⟩, ⟨rfl, h39⟩, rfl, ⟨by omega, by omega⟩, ⟨rfl, rfl, hg, rfl, rfl, rfl, by omega⟩, trivial⟩ ?_
                  refine ⟨(), trivial, Ent.trans (Ent.ofH ?_) (Ent.el ⟨rfl, rfl, rfl, rfl, rfl, rfl, trivial⟩)⟩
                  show [(b9, HObj.arr 4 1 cap9 ((markE (andM q r k)).set k (setSeg [B true] 0 (cellsAV (B (p k)))))), _] = _
                  rw [hfin (p k) (by rw [← hr]; simp [hi0])]
            · intro _ _
              refine LWp.x (gs := []) (hs := []) rfl ⟨by omega, trivial⟩ ?_
              exact ⟨k + 1, hk', by omega, Ent.el ⟨rfl, rfl, rfl, rfl, rfl, rfl, trivial⟩⟩
          · simp only [decide_eq_false_iff_not] at hd
            have : k = 3125 := by omega
            subst this
            refine LWp.exit ⟨(), trivial, Ent.trans (Ent.dropH 1) (Ent.trans (Ent.ofH ?_) (Ent.el ⟨rfl, rfl, rfl, rfl, trivial⟩))⟩
            rw [hsn]
            refine congrArg (fun q => [(b9, HObj.arr 4 1 cap9 q)]) (markE_congr (fun d hd => ?_))
            simp [andM, hd]
        · intro _ _
          refine LWp.x (gs := []) (hs := []) rfl trivial ?_
          exact ⟨(b9, cap9), trivial, Ent.el ⟨rfl, rfl, rfl, rfl, trivial⟩⟩
      · rintro ⟨b9, cap9⟩ _
        refine LWp.x (gs := []) (hs := []) rfl ⟨by omega, trivial⟩ ?_
        exact ⟨(i + 1, b9, cap9), hc, by simp only; omega, Ent.el ⟨rfl, rfl, rfl, rfl, trivial⟩⟩
    · simp only [List.length_map, decide_eq_false_iff_not, Int.ofNat_lt] at hc
      refine LWp.exit ⟨(b5, cap5), trivial, Ent.trans (Ent.ofH ?_) (Ent.el ⟨rfl, trivial⟩)⟩
      rw [List.take_of_length_le (by omega)]
  · rintro ⟨b5, cap5⟩ _
    refine LWp.sx (gs := []) (hs := []) rfl trivial ?_
    refine LWp.ent (Ent.unshare (i := 0) (t := 4) (es := markE (shP b l)) (b := b5) (cap := cap5) (kk := 1) (T := 4) ?_ rfl) ?_
    · rw [markE_len]; rfl
    exact LWp.ret (retT (.inr rfl) (.lin (upd_same _ _ _) rfl))
end Go.Px

namespace Go.Px
open Go.Proofs
abbrev lists (l : List (List Nat)) : AV := .sl 1 (l.map fun c => [ints (natI c)])
end Go.Px

namespace Go.Px
open Go.Proofs Go.MapKept
theorem beyond_two (lo hi a b : Int) : beyondB lo hi [a, b] = (beyondB lo hi [a] || beyondB lo hi [b]) := by
  unfold beyondB; simp
def endsE (s : Sp) (a b : Int) : Int := if beyondB a b [s.1, s.2] = true then 7 else if s.2 < s.1 then 2 else 0
theorem ends_ev (s : Sp) (a b : Int) : Ev Tryz.prog 104 [.agg (sp2 s), I a, I b] (I (endsE s a b)) := by
  have e1 := in_ev s.1 a b
  have e2 := in_ev s.2 a b
  rw [inB_of] at e1 e2
  have hE : endsE s a b = if (beyondB a b [s.1] || beyondB a b [s.2]) = true then 7 else if s.2 < s.1 then 2 else 0 := by unfold endsE; rw [beyond_two]
  generalize beyondB a b [s.1] = c1 at e1 hE
  generalize beyondB a b [s.2] = c2 at e2 hE
  refine Ev.intro fn104 ?_
  refine LWp.sx (gs := []) (hs := [.ice]) rfl ⟨⟨rfl, rfl⟩, trivial⟩ ?_
  refine LWp.seq (LWp.cutX (fun _ : Unit => True) (fun _ => el [(3, .pi (sp2 s)), (20, B (c1 || c2))]) (fun _ => []) (fun _ => []) ?_ ?_)
  · cases c1 with
    | true =>
      refine LWp.x (gs := [(13, true)]) (hs := [.ret (B (!true))]) rfl (by (repeat' (with_reducible apply And.intro)); (all_goals first | (with_reducible exact trivial) | (with_reducible rfl) | (with_reducible assumption) | ((with_reducible apply isB); first | exact rfl | exact beq_self_eq_true _) | omega | ((first | exact e1)))) ?_
      exact ⟨(), trivial, Ent.el ⟨rfl, rfl, trivial⟩⟩
    | false =>
      refine LWp.x (gs := [(13, false)]) (hs := [.ret (B (!false)), .ret (B (!c2))]) rfl (by (repeat' (with_reducible apply And.intro)); (all_goals first | (with_reducible exact trivial) | (with_reducible rfl) | (with_reducible assumption) | ((with_reducible apply isB); first | exact rfl | exact beq_self_eq_true _) | omega | ((first | exact e1 | exact e2)))) ?_
      refine ⟨(), trivial, Ent.el ⟨rfl, ?_, trivial⟩⟩
      show B (!!c2) = B _
      rw [Bool.not_not]; rfl
  intro _ _
  refine LWp.ite rfl (fun hb => ?_) (fun hb => LWp.skip ?_)
  · rw [if_pos hb] at hE
    rw [hE]
    refine LWp.sx (gs := []) (hs := []) rfl trivial ?_
    refine LWp.ret (retT (.inr rfl) (.one (.tmp ?_ rfl)))
    rfl
  rw [if_neg (by simp [hb])] at hE
  refine LWp.seq (LWp.seq ?_)
  refine LWp.x (gs := []) (hs := []) rfl trivial ?_
  refine LWp.ite rfl (fun hd => ?_) (fun hd => LWp.skip ?_)
  · rw [if_pos (of_decide_eq_true hd)] at hE
    rw [hE]
    refine LWp.sx (gs := []) (hs := []) rfl trivial ?_
    refine LWp.ret (retT (.inr rfl) (.one (.tmp ?_ rfl)))
    rfl
  · rw [if_neg (of_decide_eq_false hd)] at hE
    rw [hE]
    refine LWp.sx (gs := []) (hs := []) rfl trivial ?_
    refine LWp.ret (retT (.inr rfl) (.one (.tmp ?_ rfl)))
    rfl
theorem rmention_ev (t : Town) (x : Men) (at_ : Int) (hv0 : -9223372036854775807 ≤ t.vil) (hv1 : t.vil ≤ 9223372036854775807) (hms : t.ms.length ≤ 1000) (hss : t.ear.ss.length ≤ 1000) : Ev Tryz.prog 57 [.agg t.enc, .agg x.enc, I at_] (I (menE t x at_)) := by
  have hsl : (t.ear.ss.map Spelling.enc).length = t.ear.ss.length := List.length_map _
  have hml : (t.ms.map Men.enc).length = t.ms.length := List.length_map _
  have b1 := in_ev x.sp 0 (((t.ear.ss.map Spelling.enc).length : Int) - 1)
  have b2 := in_ev x.v (-1) (t.vil - 1)
  have b3 := in_ev x.par (-1) (((t.ms.map Men.enc).length : Int) - 1)
  have b4 := ends_ev (x.lo, x.hi) 0 199
  rw [inB_of] at b1 b2 b3
  have hE : menE t x at_ = if ((beyondB 0 (((t.ear.ss.map Spelling.enc).length : Int) - 1) [x.sp] || beyondB (-1) (t.vil - 1) [x.v]) || beyondB (-1) (((t.ms.map Men.enc).length : Int) - 1) [x.par]) = true then 4
      else if endsE (x.lo, x.hi) 0 199 ≠ 0 then endsE (x.lo, x.hi) 0 199 else if x.par = at_ then 2 else 0 := by
    rw [hsl, hml]
    unfold menE endsE
    split
    · rfl
    · simp only
      split
      · simp
      · by_cases h1 : x.hi < x.lo
        · simp [h1]
        · simp [h1]
  generalize beyondB 0 (((t.ear.ss.map Spelling.enc).length : Int) - 1) [x.sp] = c1 at b1 hE
  generalize beyondB (-1) (t.vil - 1) [x.v] = c2 at b2 hE
  generalize beyondB (-1) (((t.ms.map Men.enc).length : Int) - 1) [x.par] = c3 at b3 hE
  generalize endsE (x.lo, x.hi) 0 199 = e4 at b4 hE
  refine Ev.intro fn57 ?_
  refine LWp.sx (gs := []) (hs := [.ice, .ice]) rfl ⟨⟨rfl, rfl⟩, ⟨rfl, rfl⟩, trivial⟩ ?_
  refine LWp.seq (LWp.cutX (fun _ : Unit => True) (fun _ => el [(2, I at_), (3, .pi t.enc), (4, .pi x.enc), (35, B ((c1 || c2) || c3))]) (fun _ => []) (fun _ => []) ?_ ?_)
  · cases c1 with
    | true =>
      refine LWp.x (gs := [(17, true), (26, true)]) (hs := [.ret (B (!true))]) rfl (by (repeat' (with_reducible apply And.intro)); (all_goals first | (with_reducible exact trivial) | (with_reducible rfl) | (with_reducible assumption) | ((with_reducible apply isB); first | exact rfl | exact beq_self_eq_true _) | omega | ((first | exact b1)))) ?_
      exact ⟨(), trivial, Ent.el ⟨rfl, rfl, rfl, rfl, trivial⟩⟩
    | false =>
      cases c2 with
      | true =>
        refine LWp.x (gs := [(17, false), (26, true)]) (hs := [.ret (B (!false)), .ret (B (!true))]) rfl (by (repeat' (with_reducible apply And.intro)); (all_goals first | (with_reducible exact trivial) | (with_reducible rfl) | (with_reducible assumption) | ((with_reducible apply isB); first | exact rfl | exact beq_self_eq_true _) | omega | ((first | exact b1 | exact b2)))) ?_
        exact ⟨(), trivial, Ent.el ⟨rfl, rfl, rfl, rfl, trivial⟩⟩
      | false =>
        refine LWp.x (gs := [(17, false), (26, false)]) (hs := [.ret (B (!false)), .ret (B (!false)), .ret (B (!c3))]) rfl (by (repeat' (with_reducible apply And.intro)); (all_goals first | (with_reducible exact trivial) | (with_reducible rfl) | (with_reducible assumption) | ((with_reducible apply isB); first | exact rfl | exact beq_self_eq_true _) | omega | ((first | exact b1 | exact b2 | exact b3)))) ?_
        refine ⟨(), trivial, Ent.el ⟨rfl, rfl, rfl, ?_, trivial⟩⟩
        show B (!!c3) = B _
        rw [Bool.not_not]; rfl
  intro _ _
  refine LWp.ite rfl (fun hb => ?_) (fun hb => LWp.skip ?_)
  · rw [if_pos hb] at hE
    rw [hE]
    refine LWp.sx (gs := []) (hs := []) rfl trivial ?_
    refine LWp.ret (retT (.inr rfl) (.one (.tmp ?_ rfl)))
    rfl
  rw [if_neg (by rw [hb]; decide)] at hE
  refine LWp.sx (gs := []) (hs := [.ret (I e4)]) rfl ⟨b4, trivial⟩ ?_
  by_cases h4 : e4 = 0
  · rw [if_neg (by simp [h4])] at hE
    have hz : (e4 == 0) = true := by rw [h4]; rfl
    refine LWp.seq (LWp.seq ?_)
    refine LWp.x (gs := [(41, true)]) (hs := []) rfl (by (repeat' (with_reducible apply And.intro)); (all_goals first | (with_reducible exact trivial) | (with_reducible rfl) | (with_reducible assumption) | ((with_reducible apply isB); first | exact rfl | exact beq_self_eq_true _) | omega | ((rfl)))) ?_
    by_cases h5 : x.par = at_
    · rw [if_pos h5] at hE
      rw [hE]
      refine LWp.ite (b := true) (by show B _ = B _; exact congrArg B (by rw [beq_iff_eq]; exact h5)) (fun _ => ?_) (fun h => by cases h)
      refine LWp.x (gs := []) (hs := []) rfl trivial ?_
      refine LWp.sx (gs := []) (hs := []) rfl trivial ?_
      refine LWp.ret (retT (.inr rfl) (.one (.tmp ?_ rfl)))
      rfl
    · rw [if_neg h5] at hE
      rw [hE]
      refine LWp.ite (b := false) (by show B _ = B _; exact congrArg B (by rw [beq_eq_false_iff_ne]; exact h5)) (fun h => by cases h) (fun _ => LWp.skip ?_)
      refine LWp.sx (gs := []) (hs := []) rfl trivial ?_
      refine LWp.ret (retT (.inr rfl) (.one (.tmp ?_ rfl)))
      show I _ = I _
      rw [h4]
  · rw [if_pos h4] at hE
    rw [hE]
    have hz : (e4 == 0) = false := by rw [beq_eq_false_iff_ne]; exact h4
    refine LWp.seq (LWp.seq ?_)
    refine LWp.x (gs := [(41, false)]) (hs := []) rfl (by (repeat' (with_reducible apply And.intro)); (all_goals first | (with_reducible exact trivial) | (with_reducible rfl) | (with_reducible assumption) | ((with_reducible apply isB); first | exact rfl | exact beq_self_eq_true _) | omega | ((rfl)))) ?_
    refine LWp.ite (b := false) rfl (fun h => by cases h) (fun _ => LWp.skip ?_)
    refine LWp.sx (gs := []) (hs := []) rfl trivial ?_
    refine LWp.ret (retT (.inr rfl) (.one (.tmp ?_ rfl)))
    rfl
end Go.Px

namespace Go.Px
open Go.Proofs Go.MapKept
theorem failF_here {f : Nat → Int} {m k : Nat} (hk : k < m) (h : failF f m 0 = failF f (m - k) k) (hf : f k ≠ 0) : failF f m 0 = ((k : Int), f k) := by
  obtain ⟨d, hd⟩ : ∃ d, m - k = d + 1 := ⟨m - k - 1, by omega⟩
  rw [h, hd, failF, if_neg hf]
theorem failF_on {f : Nat → Int} {m k : Nat} (hk : k < m) (h : failF f m 0 = failF f (m - k) k) (hf : f k = 0) : failF f m 0 = failF f (m - (k + 1)) (k + 1) := by
  obtain ⟨d, hd⟩ : ∃ d, m - k = d + 1 := ⟨m - k - 1, by omega⟩
  rw [h, hd, failF, if_pos hf]
  congr 1
  omega
theorem failF_end {f : Nat → Int} {m : Nat} (h : failF f m 0 = failF f (m - m) m) : failF f m 0 = (0, 0) := by
  rw [h, Nat.sub_self]; rfl
theorem rpcheck_ev (t : Town) (hw : t.wf) : Ev Tryz.prog 16 [.agg t.enc] (.tup [I (checkT t).1, I (checkT t).2.1, I (checkT t).2.2]) := by
  have ec := rcheck_ev t.ear hw.ear
  have hml : ((t.ms.map Men.enc).length : Int) = t.ms.length := by simp
  have htl : ((t.ties.map Tie.enc).length : Int) = t.ties.length := by simp
  have eb := in_ev t.vil 1 4
  rw [inB_of] at eb
  have res : ∀ {Q : Post} {env : Env} {H : Heap} {x y r : Int}, (∀ env H, retP Tryz.prog [.tmp 2, .tmp 3, .tmp 4] (.tup [I (checkT t).1, I (checkT t).2.1, I (checkT t).2.2]) .ret env H [] → Q .ret env H []) → checkT t = (x, y, r) → env 2 = I x → env 3 = I y → env 4 = I r → Q .ret env H [] := by
    intro Q env H x y r hQ h h2 h3 h4
    refine hQ _ _ ?_
    rw [h]
    exact retT (.inr rfl) (.many (by decide) ⟨.tmp h2 rfl, .tmp h3 rfl, .tmp h4 rfl, trivial⟩)
  have hC : checkT t = if (check t.ear).2.2 ≠ 0 then (1, 0, (check t.ear).2.2) else if beyondB 1 4 [t.vil] = true then (2, 0, 7)
      else if 5 < t.ms.length then (3, 0, 3)
      else if (failF (menAt t) t.ms.length 0).2 ≠ 0 then (3, (failF (menAt t) t.ms.length 0).1, (failF (menAt t) t.ms.length 0).2)
      else if 4 < t.ties.length then (4, 0, 3)
      else if (failF (tieAt t) t.ties.length 0).2 ≠ 0 then (4, (failF (tieAt t) t.ties.length 0).1, (failF (tieAt t) t.ties.length 0).2)
      else (0, 0, 0) := rfl
  have hss5 : (check t.ear).2.2 = 0 → t.ear.ss.length ≤ 5 := fun h => (valid_iff.1 h).ss5
  have hbv : beyondB 1 4 [t.vil] = false → 1 ≤ t.vil ∧ t.vil ≤ 4 := by
    intro h
    have h' : ¬ beyondB 1 4 [t.vil] = true := by rw [h]; decide
    rw [beyond1_iff, Decidable.not_not] at h'
    exact h'
  generalize (check t.ear).1 = c1 at ec
  generalize (check t.ear).2.1 = c2 at ec
  generalize (check t.ear).2.2 = c3 at ec hC hss5
  generalize beyondB 1 4 [t.vil] = bv at eb hC hbv
  refine Ev.intro fn16 ?_
  refine LWp.sx (gs := []) (hs := [.ice]) rfl ⟨⟨rfl, rfl⟩, trivial⟩ ?_
  refine LWp.sx (gs := []) (hs := [.ret (.tup [I c1, I c2, I c3])]) rfl ⟨ec, trivial⟩ ?_
  refine LWp.seq (LWp.seq ?_)
  refine LWp.x (gs := []) (hs := []) rfl trivial ?_
  by_cases h : c3 = 0
  case neg =>
    rw [if_pos h] at hC
    refine LWp.ite (b := true) (by show B _ = B _; exact congrArg B (by rw [bne_iff_ne]; exact h)) (fun _ => ?_) (fun h => by cases h)
    refine LWp.sx (gs := []) (hs := []) rfl trivial ?_
    exact LWp.ret (res (fun _ _ h => h) hC rfl rfl rfl)
  rw [if_neg (by simp [h])] at hC
  refine LWp.ite (b := false) (by show B _ = B _; exact congrArg B (by rw [h]; rfl)) (fun h => by cases h) (fun _ => LWp.skip ?_)
  refine LWp.seq (LWp.seq ?_)
  refine LWp.x (gs := []) (hs := [.ret (B (!bv))]) rfl ⟨eb, trivial⟩ ?_
  cases bv with
  | true =>
    rw [if_pos rfl] at hC
    refine LWp.ite (b := true) rfl (fun _ => ?_) (fun h => by cases h)
    refine LWp.sx (gs := []) (hs := []) rfl trivial ?_
    exact LWp.ret (res (fun _ _ h => h) hC rfl rfl rfl)
  | false =>
  rw [if_neg (by decide)] at hC
  refine LWp.ite (b := false) rfl (fun h => by cases h) (fun _ => LWp.skip ?_)
  refine LWp.seq (LWp.seq ?_)
  refine LWp.x (gs := []) (hs := []) rfl trivial ?_
  by_cases h5 : 5 < t.ms.length
  · rw [if_pos h5] at hC
    refine LWp.ite (b := true) (by show B _ = B _; exact congrArg B (decide_eq_true (by omega))) (fun _ => ?_) (fun h => by cases h)
    refine LWp.sx (gs := []) (hs := []) rfl trivial ?_
    exact LWp.ret (res (fun _ _ h => h) hC rfl rfl rfl)
  rw [if_neg h5] at hC
  refine LWp.ite (b := false) (by show B _ = B _; exact congrArg B (decide_eq_false (by omega))) (fun h => by cases h) (fun _ => LWp.skip ?_)
  have hss : t.ear.ss.length ≤ 1000 := by have := hss5 h; omega
  have hms : t.ms.length ≤ 1000 := by omega
  have hvil := hbv rfl
  refine LWp.seq (LWp.seq ?_)
  refine LWp.x (gs := []) (hs := []) rfl trivial ?_
  refine LWp.blockT (fun _ : Unit => failF (menAt t) t.ms.length 0 = (0, 0)) (fun _ => el [(1, .pi t.enc)]) (fun _ => []) (fun _ => []) ?_ ?_
  · refine LWp.loopN (fun k : Nat => k ≤ t.ms.length ∧ failF (menAt t) t.ms.length 0 = failF (menAt t) (t.ms.length - k) k) (fun k => el [(1, .pi t.enc), (8, I k)]) (fun _ => []) (fun _ => []) (fun k => t.ms.length - k) 0 ⟨by omega, rfl⟩ (Ent.el ⟨rfl, rfl, trivial⟩) ?_
    rintro k ⟨hk, hi⟩
    refine LWp.seq (LWp.seq ?_)
    refine LWp.x (gs := []) (hs := []) rfl trivial ?_
    refine LWp.ite rfl (fun hc => ?_) (fun hc => ?_)
    · simp only [decide_eq_true_eq] at hc
      have hkl : k < t.ms.length := by omega
      obtain ⟨x, hx⟩ := ex_get hkl
      have em : menAt t k = menE t x k := by unfold menAt; rw [hx]
      have erm := rmention_ev t x k (by omega) (by omega) hms hss
      rw [← em] at erm
      have h1 := failF_here hkl hi
      have h2 := failF_on hkl hi
      generalize menAt t k = e at erm h1 h2
      refine LWp.skip (LWp.seq (LWp.block ?_))
      refine LWp.sd (gs := []) (hs := [.cells x.enc, .ret (I e)]) hmix rfl (by kernel_rfl) (by (repeat' (with_reducible apply And.intro)); (all_goals first | (with_reducible exact trivial) | (with_reducible rfl) | (with_reducible assumption) | ((with_reducible apply isB); first | exact rfl | exact beq_self_eq_true _) | omega | ((first | (simp [hx]; done) | exact erm)))) ?_
      refine LWp.sx (gs := []) (hs := []) rfl trivial ?_
      by_cases he : e = 0
      · refine LWp.ite (b := false) (by show B _ = B _; exact congrArg B (by rw [he]; rfl)) (fun h => by cases h) (fun _ => LWp.skip ?_)
        refine LWp.x (gs := []) (hs := []) rfl ⟨by omega, trivial⟩ ?_
        exact ⟨k + 1, ⟨by omega, h2 he⟩, by omega, Ent.el ⟨rfl, rfl, trivial⟩⟩
      · refine LWp.ite (b := true) (by show B _ = B _; exact congrArg B (by rw [bne_iff_ne]; exact he)) (fun _ => ?_) (fun h => by cases h)
        refine LWp.sx (gs := []) (hs := []) rfl trivial ?_
        rw [h1 he, if_pos he] at hC
        exact LWp.ret (res (fun _ _ h => h) hC rfl rfl rfl)
    · simp only [decide_eq_false_iff_not] at hc
      have e : k = t.ms.length := by omega
      subst e
      exact LWp.exit ⟨(), failF_end hi, Ent.el ⟨rfl, trivial⟩⟩
  intro _ hM
  rw [hM, if_neg (by simp)] at hC
  refine LWp.seq (LWp.seq ?_)
  refine LWp.x (gs := []) (hs := []) rfl trivial ?_
  by_cases h4 : 4 < t.ties.length
  · rw [if_pos h4] at hC
    refine LWp.ite (b := true) (by show B _ = B _; exact congrArg B (decide_eq_true (by omega))) (fun _ => ?_) (fun h => by cases h)
    refine LWp.sx (gs := []) (hs := []) rfl trivial ?_
    exact LWp.ret (res (fun _ _ h => h) hC rfl rfl rfl)
  rw [if_neg h4] at hC
  refine LWp.ite (b := false) (by show B _ = B _; exact congrArg B (decide_eq_false (by omega))) (fun h => by cases h) (fun _ => LWp.skip ?_)
  refine LWp.seq (LWp.seq ?_)
  refine LWp.x (gs := []) (hs := []) rfl trivial ?_
  refine LWp.blockT (fun _ : Unit => failF (tieAt t) t.ties.length 0 = (0, 0)) (fun _ => el []) (fun _ => []) (fun _ => []) ?_ ?_
  · refine LWp.loopN (fun k : Nat => k ≤ t.ties.length ∧ failF (tieAt t) t.ties.length 0 = failF (tieAt t) (t.ties.length - k) k) (fun k => el [(1, .pi t.enc), (9, I k)]) (fun _ => []) (fun _ => []) (fun k => t.ties.length - k) 0 ⟨by omega, rfl⟩ (Ent.el ⟨rfl, rfl, trivial⟩) ?_
    rintro k ⟨hk, hi⟩
    refine LWp.seq (LWp.seq ?_)
    refine LWp.x (gs := []) (hs := []) rfl trivial ?_
    refine LWp.ite rfl (fun hc => ?_) (fun hc => ?_)
    · simp only [decide_eq_true_eq] at hc
      have hkl : k < t.ties.length := by omega
      obtain ⟨x, hx⟩ := ex_get hkl
      have ea := in_ev x.a 0 (((t.ms.map Men.enc).length : Int) - 1)
      have eb := in_ev x.b 0 (((t.ms.map Men.enc).length : Int) - 1)
      rw [inB_of] at ea eb
      have em : tieAt t k = if (beyondB 0 (((t.ms.map Men.enc).length : Int) - 1) [x.a] || beyondB 0 (((t.ms.map Men.enc).length : Int) - 1) [x.b]) = true then 4 else if x.a = x.b then 2 else 0 := by
        unfold tieAt
        rw [hx, hml]
        show tieE t x = _
        unfold tieE
        rw [beyond_two]
      have h1 := failF_here hkl hi
      have h2 := failF_on hkl hi
      generalize beyondB 0 (((t.ms.map Men.enc).length : Int) - 1) [x.a] = c1 at ea em
      generalize beyondB 0 (((t.ms.map Men.enc).length : Int) - 1) [x.b] = c2 at eb em
      refine LWp.skip (LWp.seq (LWp.block ?_))
      refine LWp.sx (gs := []) (hs := [.cells x.enc, .lin]) rfl ⟨⟨by omega, by simp [hx]⟩, rfl, ⟨rfl, rfl, rfl, by decide⟩, trivial⟩ ?_
      refine LWp.ent (Ent.freezeLbox (t := 10) rfl) ?_
      refine LWp.seq (LWp.cutX (fun _ : Unit => True) (fun _ => el [(1, .pi t.enc), (9, I k), (10, .pi x.enc), (81, B (c1 || c2))]) (fun _ => []) (fun _ => []) ?_ ?_)
      · cases c1 with
        | true =>
          refine LWp.x (gs := [(72, true)]) (hs := [.ret (B (!true))]) rfl (by (repeat' (with_reducible apply And.intro)); (all_goals first | (with_reducible exact trivial) | (with_reducible rfl) | (with_reducible assumption) | ((with_reducible apply isB); first | exact rfl | exact beq_self_eq_true _) | omega | ((first | exact ea)))) ?_
          exact ⟨(), trivial, Ent.el ⟨rfl, rfl, rfl, rfl, trivial⟩⟩
        | false =>
          refine LWp.x (gs := [(72, false)]) (hs := [.ret (B (!false)), .ret (B (!c2))]) rfl (by (repeat' (with_reducible apply And.intro)); (all_goals first | (with_reducible exact trivial) | (with_reducible rfl) | (with_reducible assumption) | ((with_reducible apply isB); first | exact rfl | exact beq_self_eq_true _) | omega | ((first | exact ea | exact eb)))) ?_
          refine ⟨(), trivial, Ent.el ⟨rfl, rfl, rfl, ?_, trivial⟩⟩
          show B (!!c2) = B _
          rw [Bool.not_not]; rfl
      intro _ _
      refine LWp.ite rfl (fun hb => ?_) (fun hb => LWp.skip ?_)
      · rw [if_pos hb] at em
        refine LWp.sx (gs := []) (hs := []) rfl trivial ?_
        rw [h1 (by rw [em]; decide), em, if_pos (show (4 : Int) ≠ 0 by decide)] at hC
        exact LWp.ret (res (fun _ _ h => h) hC rfl rfl rfl)
      rw [if_neg (by rw [hb]; decide)] at em
      refine LWp.sx (gs := []) (hs := []) rfl trivial ?_
      by_cases hab : x.a = x.b
      · rw [if_pos hab] at em
        refine LWp.ite (b := true) (by show B _ = B _; exact congrArg B (by rw [beq_iff_eq]; exact hab)) (fun _ => ?_) (fun h => by cases h)
        refine LWp.sx (gs := []) (hs := []) rfl trivial ?_
        rw [h1 (by rw [em]; decide), em, if_pos (show (2 : Int) ≠ 0 by decide)] at hC
        exact LWp.ret (res (fun _ _ h => h) hC rfl rfl rfl)
      · rw [if_neg hab] at em
        refine LWp.ite (b := false) (by show B _ = B _; exact congrArg B (by rw [beq_eq_false_iff_ne]; exact hab)) (fun h => by cases h) (fun _ => LWp.skip ?_)
        refine LWp.x (gs := []) (hs := []) rfl ⟨by omega, trivial⟩ ?_
        exact ⟨k + 1, ⟨by omega, h2 em⟩, by omega, Ent.el ⟨rfl, rfl, trivial⟩⟩
    · simp only [decide_eq_false_iff_not] at hc
      have e : k = t.ties.length := by omega
      subst e
      exact LWp.exit ⟨(), failF_end hi, Ent.el trivial⟩
  intro _ hT
  rw [hT, if_neg (by simp)] at hC
  refine LWp.sx (gs := []) (hs := []) rfl trivial ?_
  exact LWp.ret (res (fun _ _ h => h) hC rfl rfl rfl)
end Go.Px

namespace Go.Px
open Go.Proofs Go.MapKept
theorem ints_get (p : List Nat) {k : Nat} (h : k < p.length) : ((natI p).map fun x => [I x])[k]? = some [I ((per p k : Nat) : Int)] := by
  rw [List.getElem?_map]
  unfold natI
  rw [List.getElem?_map, get_per h]; rfl
theorem take_succ_per (p : List Nat) {k : Nat} (h : k < p.length) : p.take (k + 1) = p.take k ++ [per p k] := by
  rw [List.take_add_one, get_per h]; rfl
theorem cnt_take_le {p : List Nat} (h : ∀ i, per p i ≤ 1000) : ∀ k, k ≤ p.length → cnt (p.take k) ≤ 1001
  | 0, _ => by show 0 ≤ 1001; omega
  | k + 1, hk => by
    rw [take_succ_per p (by omega), cnt_snoc]
    have := cnt_take_le h k (by omega)
    have := h k
    omega
theorem rcount3_ev {p : List Nat} (h : Small p) : Ev Tryz.prog 37 [ints (natI p)] (I (cnt p : Nat)) := by
  have hl := h.len
  have hln : (((natI p).map fun x => [I x]).length : Int) = p.length := by simp [natI]
  refine Ev.intro fn37 ?_
  refine LWp.sx (gs := []) (hs := []) rfl trivial ?_
  refine LWp.sx (gs := []) (hs := []) rfl trivial ?_
  refine LWp.seq (LWp.seq ?_)
  refine LWp.x (gs := []) (hs := []) rfl trivial ?_
  refine LWp.blockT (fun _ : Unit => True) (fun _ => el [(3, I (cnt p : Nat))]) (fun _ => []) (fun _ => []) ?_ ?_
  · refine LWp.loopN (fun k : Nat => k ≤ p.length) (fun k => el [(0, ints (natI p)), (3, I (cnt (p.take k) : Nat)), (4, I k)]) (fun _ => []) (fun _ => []) (fun k => p.length - k) 0 (by omega) (Ent.el ⟨rfl, rfl, rfl, trivial⟩) ?_
    intro k hk
    refine LWp.seq (LWp.seq ?_)
    refine LWp.x (gs := []) (hs := []) rfl trivial ?_
    refine LWp.ite rfl (fun hc => ?_) (fun hc => ?_)
    · simp only [decide_eq_true_eq] at hc
      have hkl : k < p.length := by omega
      have hg := ints_get p hkl
      have hc1 := cnt_take_le h.lt k hk
      have hp := h.lt k
      have hs := cnt_snoc (p.take k) (per p k)
      rw [← take_succ_per p hkl] at hs
      refine LWp.skip (LWp.seq (LWp.block ?_))
      refine LWp.x (gs := []) (hs := [.cells [I (per p k : Nat)]]) rfl ⟨⟨by omega, hg⟩, ⟨by omega, by omega⟩, trivial⟩ ?_
      refine LWp.x (gs := []) (hs := []) rfl ⟨by omega, trivial⟩ ?_
      refine ⟨k + 1, by omega, by omega, Ent.el ⟨rfl, ?_, rfl, trivial⟩⟩
      show I (max ((cnt (p.take k) : Nat) : Int) (((per p k : Nat) : Int) + 1)) = I _
      rw [hs]
      refine congrArg I ?_
      omega
    · simp only [decide_eq_false_iff_not] at hc
      have e : k = p.length := by omega
      subst e
      rw [List.take_length]
      exact LWp.exit ⟨(), trivial, Ent.el ⟨rfl, trivial⟩⟩
  · intro _ _
    refine LWp.sx (gs := []) (hs := []) rfl trivial ?_
    refine LWp.ret (retT (.inr rfl) (.one (.tmp ?_ rfl)))
    rfl
def ofK (p : List Nat) (who k : Nat) : List Nat := (List.range k).filter fun i => per p i == who
theorem ofK_succ (p : List Nat) (who k : Nat) : ofK p who (k + 1) = ofK p who k ++ (if (per p k == who) = true then [k] else []) := by
  unfold ofK
  rw [List.range_succ, List.filter_append]
  congr 1
  simp only [List.filter_cons, List.filter_nil]
theorem ofK_len (p : List Nat) (who k : Nat) : (ofK p who k).length ≤ k := by
  have := List.length_filter_le (fun i => per p i == who) (List.range k)
  unfold ofK
  simpa using this
theorem rof_ev {p : List Nat} (hl : p.length ≤ 1000) (who : Nat) : Ev Tryz.prog 113 [ints (natI p), I (who : Nat)] (ints (natI (ofL p who))) := by
  have hln : (((natI p).map fun x => [I x]).length : Int) = p.length := by simp [natI]
  refine Ev.freeze (T := 3) ?_
  refine Ev.intro fn113 ?_
  refine LWp.sx (gs := []) (hs := []) rfl trivial ?_
  refine LWp.sx (gs := []) (hs := []) rfl trivial ?_
  refine LWp.ent (Ent.nilLin (t := 5) 3 1 rfl) ?_
  refine LWp.seq (LWp.seq ?_)
  refine LWp.x (gs := []) (hs := []) rfl trivial ?_
  refine LWp.blockT (fun _ : Unit => True) (fun _ => el [(5, .lin 3 1 ((natI (ofL p who)).map fun x => [I x]))]) (fun _ => []) (fun _ => []) ?_ ?_
  · refine LWp.loopN (fun k : Nat => k ≤ p.length) (fun k => el [(0, ints (natI p)), (1, I (who : Nat)), (5, .lin 3 1 ((natI (ofK p who k)).map fun x => [I x])), (6, I k)]) (fun _ => []) (fun _ => []) (fun k => p.length - k) 0 (by omega) (Ent.el ⟨rfl, rfl, rfl, rfl, trivial⟩) ?_
    intro k hk
    refine LWp.seq (LWp.seq ?_)
    refine LWp.x (gs := []) (hs := []) rfl trivial ?_
    refine LWp.ite rfl (fun hc => ?_) (fun hc => ?_)
    · simp only [decide_eq_true_eq] at hc
      have hkl : k < p.length := by omega
      have hg := ints_get p hkl
      have hsucc := ofK_succ p who k
      have hlen := ofK_len p who k
      refine LWp.skip (LWp.seq (LWp.block ?_))
      refine LWp.sx (gs := []) (hs := [.cells [I (per p k : Nat)]]) rfl ⟨⟨by omega, hg⟩, trivial⟩ ?_
      refine LWp.ite (b := (per p k == who)) (by show B _ = B _; refine congrArg B ?_; rw [Bool.eq_iff_iff, beq_iff_eq, beq_iff_eq]; omega) (fun hb => ?_) (fun hb => LWp.skip ?_)
      · rw [if_pos hb] at hsucc
        refine LWp.x (gs := []) (hs := [.ice]) rfl ⟨rfl, ⟨by simp only [List.length_map, natI, chunk, List.length_cons, List.length_nil]; omega, by simp only [List.length_map, natI, chunk, List.length_cons, List.length_nil]; omega⟩, trivial⟩ ?_
        refine LWp.x (gs := []) (hs := []) rfl ⟨by omega, trivial⟩ ?_
        refine ⟨k + 1, by omega, by omega, Ent.el ⟨rfl, rfl, ?_, rfl, trivial⟩⟩
        show AV.lin 3 1 _ = AV.lin 3 1 _
        rw [hsucc, natI_append, List.map_append]; rfl
      · rw [if_neg (by rw [hb]; decide)] at hsucc
        rw [List.append_nil] at hsucc
        refine LWp.x (gs := []) (hs := []) rfl ⟨by omega, trivial⟩ ?_
        exact ⟨k + 1, by omega, by omega, Ent.el ⟨rfl, rfl, by rw [hsucc]; rfl, rfl, trivial⟩⟩
    · simp only [decide_eq_false_iff_not] at hc
      have e : k = p.length := by omega
      subst e
      exact LWp.exit ⟨(), trivial, Ent.el ⟨rfl, trivial⟩⟩
  · intro _ _
    refine LWp.sx (gs := []) (hs := []) rfl trivial ?_
    exact LWp.ret (retT (.inr rfl) (.lin rfl rfl))
abbrev spans (b : List Sp) : AV := .sl 2 (b.map sp2)
theorem spans_get {b : List Sp} {k : Nat} (h : k < b.length) : (b.map sp2)[k]? = some (sp2 (spAt b k)) := by
  rw [List.getElem?_map]
  unfold spAt
  rw [List.getElem?_eq_getElem h]; rfl
theorem emptyS_at {b : List Sp} : emptyS b = false ↔ ∀ k, k < b.length → (spAt b k).1 ≤ (spAt b k).2 := by
  constructor
  · intro h k hk
    exact not_empty_at h hk
  · intro h
    unfold emptyS
    rw [List.any_eq_false]
    intro x hx
    obtain ⟨k, hk⟩ := List.getElem?_of_mem hx
    have hlt := (List.getElem?_eq_some_iff.1 hk).1
    have := h k hlt
    unfold spAt at this
    rw [hk] at this
    simp only [Option.getD_some] at this
    simp only [decide_eq_true_eq]
    omega
theorem rempty_ev (b : List Sp) (hb : b.length ≤ 1000) : Ev Tryz.prog 114 [spans b] (B (emptyS b)) := by
  have hln : ((b.map sp2).length : Int) = b.length := by simp
  refine Ev.intro fn114 ?_
  refine LWp.sx (gs := []) (hs := []) rfl trivial ?_
  refine LWp.seq (LWp.seq ?_)
  refine LWp.x (gs := []) (hs := []) rfl trivial ?_
  refine LWp.blockT (fun _ : Unit => emptyS b = false) (fun _ => el []) (fun _ => []) (fun _ => []) ?_ ?_
  · refine LWp.loopN (fun k : Nat => k ≤ b.length ∧ ∀ j, j < k → (spAt b j).1 ≤ (spAt b j).2) (fun k => el [(0, spans b), (3, I k)]) (fun _ => []) (fun _ => []) (fun k => b.length - k) 0 ⟨by omega, by intro j hj; omega⟩ (Ent.el ⟨rfl, rfl, trivial⟩) ?_
    rintro k ⟨hk, hp⟩
    refine LWp.seq (LWp.seq ?_)
    refine LWp.x (gs := []) (hs := []) rfl trivial ?_
    refine LWp.ite rfl (fun hc => ?_) (fun hc => ?_)
    · simp only [decide_eq_true_eq] at hc
      have hkl : k < b.length := by omega
      have hg := spans_get hkl
      refine LWp.skip (LWp.seq (LWp.block ?_))
      refine LWp.sd (gs := []) (hs := [.cells (sp2 (spAt b k)), .cells (sp2 (spAt b k))]) hmix rfl (by kernel_rfl) ⟨⟨by omega, hg⟩, ⟨by omega, hg⟩, trivial⟩ ?_
      refine LWp.ite (b := decide ((spAt b k).1 > (spAt b k).2)) rfl (fun hd => ?_) (fun hd => LWp.skip ?_)
      · rw [decide_eq_true_iff] at hd
        have he : emptyS b = true := by
          cases hb : emptyS b with
          | true => rfl
          | false => have := emptyS_at.1 hb k hkl; omega
        rw [he]
        refine LWp.sx (gs := []) (hs := []) rfl trivial ?_
        refine LWp.ret (retT (.inr rfl) (.one (.tmp ?_ rfl)))
        rfl
      · rw [decide_eq_false_iff_not] at hd
        refine LWp.x (gs := []) (hs := []) rfl ⟨by omega, trivial⟩ ?_
        refine ⟨k + 1, ⟨by omega, fun j hj => ?_⟩, by omega, Ent.el ⟨rfl, rfl, trivial⟩⟩
        by_cases e : j = k
        · rw [e]; omega
        · exact hp j (by omega)
    · simp only [decide_eq_false_iff_not] at hc
      exact LWp.exit ⟨(), emptyS_at.2 (fun j hj => hp j (by omega)), Ent.el trivial⟩
  · intro _ h
    rw [h]
    refine LWp.sx (gs := []) (hs := []) rfl trivial ?_
    refine LWp.ret (retT (.inr rfl) (.one (.tmp ?_ rfl)))
    rfl
theorem rtied_ev {p : List Nat} (x : Tie) (a0 : 0 ≤ x.a) (a1 : x.a < p.length) (b0 : 0 ≤ x.b) (b1 : x.b < p.length) : Ev Tryz.prog 119 [.agg x.enc, ints (natI p)] (B (tieB p x)) := by
  have hU : Tryz.prog.underlying 4 = some .bool := by kernel_rfl
  have ha := ints_get p (k := x.a.toNat) (by omega)
  have hb := ints_get p (k := x.b.toNat) (by omega)
  refine Ev.intro fn119 ?_
  refine LWp.sx (gs := []) (hs := [.ice]) rfl ⟨⟨rfl, rfl⟩, trivial⟩ ?_
  refine LWp.sd (gs := []) (hs := [.cells [I (per p x.a.toNat : Nat)], .cells [I (per p x.b.toNat : Nat)]]) hmix rfl (by kernel_rfl) ⟨⟨a0, ha⟩, ⟨b0, hb⟩, hU, trivial⟩ ?_
  refine LWp.ret (retT (.inr rfl) (.one (.tmp ?_ rfl)))
  show B ((((per p x.a.toNat : Nat) : Int) == ((per p x.b.toNat : Nat) : Int)) == x.same) = B _
  refine congrArg B ?_
  unfold tieB
  rw [show (((per p x.a.toNat : Nat) : Int) == ((per p x.b.toNat : Nat) : Int)) = (per p x.a.toNat == per p x.b.toNat) by rw [Bool.eq_iff_iff, beq_iff_eq, beq_iff_eq]; omega]
end Go.Px

namespace Go.Px
open Go.Proofs Go.MapKept
theorem small_of {n : Nat} (h6 : n ≤ 6) {p : List Nat} (hg : Grp n p) : Small p := by
  obtain ⟨_, hp6⟩ := perOK_of h6 hg
  exact ⟨by rw [hg.len]; omega, fun i => by have := hp6 i; omega⟩
theorem groups_ev (n : Nat) (hn : n ≤ 6) : Ev Tryz.prog 83 [I (n : Nat)] (lists (groupsN n)) := by
  refine Ev.freeze (T := 34) ?_
  refine Ev.intro fn83 ?_
  refine LWp.sx (gs := []) (hs := []) rfl trivial ?_
  refine LWp.sx (gs := []) (hs := [.lin]) rfl ⟨rfl, trivial⟩ ?_
  refine LWp.ent (Ent.linSub (t := 3) [[ints []]] rfl ⟨⟨.nil 1, trivial⟩, trivial⟩) ?_
  refine LWp.seq (LWp.seq ?_)
  refine LWp.x (gs := []) (hs := []) rfl trivial ?_
  refine LWp.blockT (fun _ : Unit => True) (fun _ => el [(3, .lin 34 1 ((groupsN n).map fun c => [ints (natI c)]))]) (fun _ => []) (fun _ => []) ?_ ?_
  · refine LWp.loopN (fun i : Nat => i ≤ n) (fun i => el [(0, I n), (3, .lin 34 1 ((groupsN i).map fun c => [ints (natI c)])), (4, I i)]) (fun _ => []) (fun _ => []) (fun i => n - i) 0 (by omega)
      (Ent.el ⟨rfl, rfl, rfl, trivial⟩) ?_
    intro i hi
    refine LWp.seq (LWp.seq ?_)
    refine LWp.x (gs := []) (hs := []) rfl trivial ?_
    refine LWp.ite rfl (fun hc => ?_) (fun hc => ?_)
    · simp only [decide_eq_true_eq, Int.ofNat_lt] at hc
      have hlC : ∀ c ∈ groupsN i, Grp i c := fun c h => groups_grp h
      have hsC := groups_len (n := i) (by omega)
      have hsC1 := groups_len (n := i + 1) (by omega)
      have hnx : groupsN (i + 1) = (groupsN i).flatMap nextG := rfl
      generalize groupsN i = C at hlC hsC hnx
      refine LWp.skip ?_
      refine LWp.ent (Ent.freezeLin (t := 3) rfl) ?_
      refine LWp.blockX (fun _ : Unit => True) (fun _ => el [(0, I n), (3, .lin 34 1 ((groupsN (i + 1)).map fun c => [ints (natI c)])), (4, I i)]) (fun _ => []) (fun _ => []) ?_ ?_
      · refine LWp.sx (gs := []) (hs := []) rfl trivial ?_
        refine LWp.ent (Ent.nilLin (t := 5) 34 1 rfl) ?_
        refine LWp.seq (LWp.seq ?_)
        refine LWp.x (gs := []) (hs := []) rfl trivial ?_
        refine LWp.blockT (fun _ : Unit => True) (fun _ => el [(0, I n), (4, I i), (5, .lin 34 1 ((C.flatMap nextG).map fun c => [ints (natI c)]))]) (fun _ => []) (fun _ => []) ?_ ?_
        · refine LWp.loopN (fun k : Nat => k ≤ C.length) (fun k => el [(0, I n), (3, lists C), (4, I i), (5, .lin 34 1 (((C.take k).flatMap nextG).map fun c => [ints (natI c)])), (6, I k)]) (fun _ => []) (fun _ => []) (fun k => C.length - k) 0 (by omega)
            (Ent.el ⟨rfl, rfl, rfl, rfl, rfl, trivial⟩) ?_
          intro k hk
          refine LWp.seq (LWp.seq ?_)
          refine LWp.x (gs := []) (hs := []) rfl trivial ?_
          refine LWp.ite rfl (fun hd => ?_) (fun hd => ?_)
          · simp only [List.length_map, decide_eq_true_eq, Int.ofNat_lt] at hd
            obtain ⟨c, hx⟩ := ex_get hd
            have hgc := hlC c (List.mem_of_getElem? hx)
            have hcl := hgc.len
            have hcle := hgc.le
            have hsm := small_of (by omega) hgc
            have hcount := rcount3_ev hsm
            have hst : (C.take (k + 1)).flatMap nextG = (C.take k).flatMap nextG ++ nextG c := by
              rw [List.take_add_one, hx, List.flatMap_append]; simp
            have hle : ((C.take k).flatMap nextG).length + (nextG c).length ≤ 1000 := by
              have h1 : C.flatMap nextG = (C.take (k + 1)).flatMap nextG ++ (C.drop (k + 1)).flatMap nextG := by
                rw [← List.flatMap_append, List.take_append_drop]
              have h2 := congrArg List.length h1
              rw [← hnx, List.length_append, hst, List.length_append] at h2
              omega
            have hnl : (nextG c).length = cnt c + 1 := by simp [nextG]
            generalize (C.take k).flatMap nextG = A at hst hle
            refine LWp.skip ?_
            refine LWp.blockX (fun _ : Unit => True) (fun _ => el [(0, I n), (3, lists C), (4, I i), (5, .lin 34 1 ((A ++ nextG c).map fun c => [ints (natI c)])), (6, I k)]) (fun _ => []) (fun _ => []) ?_ ?_
            · refine LWp.sx (gs := []) (hs := []) rfl trivial ?_
              refine LWp.block ?_
              refine LWp.loopN (fun v : Nat => v ≤ cnt c + 1) (fun v => el [(0, I n), (3, lists C), (4, I i), (5, .lin 34 1 ((A ++ (List.range v).map fun u => c ++ [u]).map fun c => [ints (natI c)])), (6, I k), (7, I v)]) (fun _ => []) (fun _ => []) (fun v => cnt c + 1 - v) 0 (by omega)
                (Ent.el ⟨rfl, rfl, rfl, by simp; rfl, rfl, rfl, trivial⟩) ?_
              intro v hv
              refine LWp.seq (LWp.seq ?_)
              refine LWp.x (gs := []) (hs := [.cells [ints (natI c)], .ret (I (cnt c : Nat))]) rfl ⟨⟨by omega, by simp [hx]⟩, hcount, trivial⟩ ?_
              refine LWp.ite rfl (fun he => ?_) (fun he => ?_)
              · simp only [decide_eq_true_eq] at he
                have hrl : ((List.range v).map fun u => c ++ [u]).length = v := by simp
                have hst2 : (List.range (v + 1)).map (fun u => c ++ [u]) = (List.range v).map (fun u => c ++ [u]) ++ [c ++ [v]] := by
                  rw [List.range_succ, List.map_append]; rfl
                generalize (List.range v).map (fun u => c ++ [u]) = R at hrl hst2 ⊢
                refine LWp.skip (LWp.seq (LWp.block (LWp.ops ?_)))
                refine WOps.xn (gs := []) (hs := [.lin, .cells [ints (natI c)], .ice]) 10 rfl rfl ⟨rfl, ⟨by omega, by simp [hx]⟩, ⟨by simp [chunk, natI]; omega, by simp [chunk, natI]; omega⟩, rfl, ⟨by simp [chunk, natI]; omega, by simp [chunk, natI]; omega⟩, trivial⟩ ?_
                refine WOps.ent (Ent.freezeLin (t := 38) rfl) ?_
                refine WOps.xd (gs := []) (hs := [.ice]) rfl ⟨rfl, ⟨by simp [chunk]; omega, by simp [chunk]; omega⟩, trivial⟩ ?_
                refine LWp.x (gs := []) (hs := []) rfl ⟨by omega, trivial⟩ ?_
                refine ⟨v + 1, by omega, by omega, Ent.el ⟨rfl, rfl, rfl, ?_, rfl, rfl, trivial⟩⟩
                show AV.lin _ _ _ = _
                have e : [ints (natI (c ++ [v]))] = [AV.sl 1 ((natI c).map (fun x => [I x]) ++ [[I v]])] := by simp [natI]
                rw [hst2, ← List.append_assoc, List.map_append (l₁ := A ++ R)]
                show _ = AV.lin 34 1 (_ ++ [[ints (natI (c ++ [v]))]])
                rw [e]; rfl
              · simp only [decide_eq_false_iff_not] at he
                have : v = cnt c + 1 := by omega
                subst this
                exact LWp.exit ⟨(), trivial, Ent.el ⟨rfl, rfl, rfl, rfl, rfl, trivial⟩⟩
            · intro _ _
              refine LWp.x (gs := []) (hs := []) rfl ⟨by omega, trivial⟩ ?_
              refine ⟨k + 1, hd, by omega, Ent.el ⟨rfl, rfl, rfl, ?_, rfl, trivial⟩⟩
              rw [hst]; rfl
          · simp only [List.length_map, decide_eq_false_iff_not, Int.ofNat_lt] at hd
            refine LWp.exit ⟨(), trivial, Ent.el ⟨rfl, rfl, ?_, trivial⟩⟩
            have e : C.take k = C := List.take_of_length_le (by omega)
            rw [e]; rfl
        · intro _ _
          refine LWp.x (gs := []) (hs := []) rfl trivial ?_
          exact ⟨(), trivial, Ent.el ⟨rfl, by rw [hnx]; rfl, rfl, trivial⟩⟩
      · intro _ _
        refine LWp.x (gs := []) (hs := []) rfl ⟨by omega, trivial⟩ ?_
        exact ⟨i + 1, hc, by omega, Ent.el ⟨rfl, rfl, rfl, trivial⟩⟩
    · simp only [decide_eq_false_iff_not, Int.ofNat_lt] at hc
      have : i = n := by omega
      subst this
      exact LWp.exit ⟨(), trivial, Ent.el ⟨rfl, trivial⟩⟩
  · intro _ _
    refine LWp.sx (gs := []) (hs := []) rfl trivial ?_
    exact LWp.ret (retT (.inr rfl) (.lin rfl rfl))
theorem rkin_ev {t : Town} (h : t.OK) {p : List Nat} (hl : p.length = t.ms.length) : Ev Tryz.prog 120 [.agg t.enc, ints (natI p)] (B (kinB t p)) := by
  have hml : ((t.ms.map Men.enc).length : Int) = t.ms.length := by simp
  have hm6 := h.ms6
  refine Ev.intro fn120 ?_
  refine LWp.sx (gs := []) (hs := [.ice]) rfl ⟨⟨rfl, rfl⟩, trivial⟩ ?_
  refine LWp.seq (LWp.seq ?_)
  refine LWp.x (gs := []) (hs := []) rfl trivial ?_
  refine LWp.blockT (fun _ : Unit => kinB t p = true) (fun _ => el []) (fun _ => []) (fun _ => []) ?_ ?_
  · refine LWp.loopN (fun k : Nat => k ≤ t.ms.length ∧ ∀ i, i < k → kinAt t p i) (fun k => el [(1, ints (natI p)), (2, .pi t.enc), (5, I k)]) (fun _ => []) (fun _ => []) (fun k => t.ms.length - k) 0 ⟨by omega, by intro i hi; omega⟩ (Ent.el ⟨rfl, rfl, rfl, trivial⟩) ?_
    rintro k ⟨hk, hp⟩
    refine LWp.seq (LWp.seq ?_)
    refine LWp.x (gs := []) (hs := []) rfl trivial ?_
    refine LWp.ite rfl (fun hc => ?_) (fun hc => ?_)
    · simp only [decide_eq_true_eq] at hc
      have hkl : k < t.ms.length := by omega
      obtain ⟨x, hx⟩ := ex_get hkl
      have ox := h.men k x hx
      have q0 := ox.par0
      have q1 := ox.par1
      have emk := Town.m_get hx
      have next : kinAt t p k → ∀ i, i < k + 1 → kinAt t p i := by
        intro he j hj
        by_cases e : j = k
        · rw [e]; exact he
        · exact hp j (by omega)
      refine LWp.skip (LWp.seq (LWp.block ?_))
      refine LWp.sx (gs := []) (hs := [.cells x.enc]) rfl ⟨⟨by omega, by simp [hx]⟩, trivial⟩ ?_
      refine LWp.ent (Ent.el (l := [(1, ints (natI p)), (2, .pi t.enc), (5, I k), (6, I x.par)]) ⟨rfl, rfl, rfl, rfl, trivial⟩) ?_
      refine LWp.seq (LWp.seq ?_)
      refine LWp.x (gs := []) (hs := []) rfl trivial ?_
      by_cases hpar : x.par = -1
      · refine LWp.ite (b := true) (by show B _ = B _; exact congrArg B (by rw [beq_iff_eq]; exact hpar)) (fun _ => ?_) (fun h => by cases h)
        refine LWp.exit ?_
        refine LWp.x (gs := []) (hs := []) rfl ⟨by omega, trivial⟩ ?_
        exact ⟨k + 1, ⟨by omega, next (fun hne => absurd (by rw [emk]; exact hpar) hne)⟩, by omega, Ent.el ⟨rfl, rfl, rfl, trivial⟩⟩
      refine LWp.ite (b := false) (by show B _ = B _; exact congrArg B (by rw [beq_eq_false_iff_ne]; exact hpar)) (fun h => by cases h) (fun _ => LWp.skip ?_)
      have hg1 := ints_get p (k := k) (by omega)
      have hg2 := ints_get p (k := x.par.toNat) (by omega)
      refine LWp.seq (LWp.seq ?_)
      refine LWp.dd (gs := []) (hs := [.cells [I (per p x.par.toNat : Nat)], .cells [I (per p k : Nat)]]) hmix rfl (by kernel_rfl) ⟨⟨by omega, hg2⟩, ⟨by omega, hg1⟩, trivial⟩ ?_
      by_cases h1 : per p x.par.toNat = per p k
      · refine LWp.ite (b := true) (by show B _ = B _; exact congrArg B (by rw [beq_iff_eq, h1])) (fun _ => ?_) (fun h => by cases h)
        have hno : kinB t p = false := by
          rw [Bool.eq_false_iff]
          intro hT
          have := (kinB_at.1 hT k hkl (by rw [emk]; exact hpar)).1
          rw [emk] at this
          exact this h1
        rw [hno]
        refine LWp.sx (gs := []) (hs := []) rfl trivial ?_
        refine LWp.ret (retT (.inr rfl) (.one (.tmp ?_ rfl)))
        rfl
      refine LWp.ite (b := false) (by show B _ = B _; exact congrArg B (by rw [beq_eq_false_iff_ne]; omega)) (fun h => by cases h) (fun _ => LWp.skip ?_)
      refine LWp.sx (gs := []) (hs := []) rfl trivial ?_
      refine LWp.block ?_
      refine LWp.loopN (fun j : Nat => j ≤ k ∧ ∀ u, u < j → (t.m u).par ≠ -1 → per p u = per p k → per p x.par.toNat = per p (t.m u).par.toNat) (fun j => el [(1, ints (natI p)), (2, .pi t.enc), (5, I k), (6, I x.par), (7, I j)]) (fun _ => []) (fun _ => []) (fun j => k - j) 0 ⟨by omega, by intro u hu; omega⟩ (Ent.el ⟨rfl, rfl, rfl, rfl, rfl, trivial⟩) ?_
      rintro j ⟨hj, hp2⟩
      refine LWp.seq (LWp.seq ?_)
      refine LWp.x (gs := []) (hs := []) rfl trivial ?_
      refine LWp.ite rfl (fun hd => ?_) (fun hd => ?_)
      · simp only [decide_eq_true_eq, Int.ofNat_lt] at hd
        obtain ⟨y, hy⟩ := ex_get (l := t.ms) (k := j) (by omega)
        have oy := h.men j y hy
        have r0 := oy.par0
        have r1 := oy.par1
        have emj := Town.m_get hy
        refine LWp.skip (LWp.seq (LWp.block ?_))
        refine LWp.sx (gs := []) (hs := [.cells y.enc]) rfl ⟨⟨by omega, by simp [hy]⟩, trivial⟩ ?_
        refine LWp.ent (Ent.el (l := [(1, ints (natI p)), (2, .pi t.enc), (5, I k), (6, I x.par), (7, I j), (8, I y.par)]) ⟨rfl, rfl, rfl, rfl, rfl, rfl, trivial⟩) ?_
        have hg3 := ints_get p (k := j) (by omega)
        refine LWp.cutX (fun _ : Unit => True) (fun _ => el [(1, ints (natI p)), (2, .pi t.enc), (5, I k), (6, I x.par), (7, I j), (67, B (decide (y.par ≠ -1 ∧ per p j = per p k ∧ per p x.par.toNat ≠ per p y.par.toNat)))]) (fun _ => []) (fun _ => []) ?_ ?_
        · by_cases g1 : y.par = -1
          · have z1 : (y.par != -1) = false := by rw [g1]; rfl
            refine LWp.dd (gs := [(46, false), (57, false)]) (hs := []) hmix rfl (by kernel_rfl) (by (repeat' (with_reducible apply And.intro)); (all_goals first | (with_reducible exact trivial) | (with_reducible rfl) | (with_reducible assumption) | ((with_reducible apply isB); first | exact rfl | exact beq_self_eq_true _) | omega | ((rfl)))) ?_
            exact ⟨(), trivial, Ent.el ⟨rfl, rfl, rfl, rfl, rfl, by show B false = B _; simp [g1], trivial⟩⟩
          · have z1 : (y.par != -1) = true := by rw [bne_iff_ne]; exact g1
            have hg4 := ints_get p (k := y.par.toNat) (by omega)
            by_cases g2 : per p j = per p k
            · have z2 : (((per p j : Nat) : Int) == ((per p k : Nat) : Int)) = true := by rw [beq_iff_eq, g2]
              refine LWp.dd (gs := [(46, true), (57, true)]) (hs := [.cells [I (per p j : Nat)], .cells [I (per p k : Nat)], .cells [I (per p x.par.toNat : Nat)], .cells [I (per p y.par.toNat : Nat)]]) hmix rfl (by kernel_rfl) (by (repeat' (with_reducible apply And.intro)); (all_goals first | (with_reducible exact trivial) | (with_reducible rfl) | (with_reducible assumption) | ((with_reducible apply isB); first | exact rfl | exact beq_self_eq_true _) | omega | ((first | exact hg1 | exact hg2 | exact hg3 | exact hg4)))) ?_
              refine ⟨(), trivial, Ent.el ⟨rfl, rfl, rfl, rfl, rfl, ?_, trivial⟩⟩
              show B (((per p x.par.toNat : Nat) : Int) != ((per p y.par.toNat : Nat) : Int)) = B _
              refine congrArg B ?_
              rw [Bool.eq_iff_iff, bne_iff_ne, decide_eq_true_iff]
              exact ⟨fun h => ⟨g1, g2, by omega⟩, fun h => by have := h.2.2; omega⟩
            · have z2 : (((per p j : Nat) : Int) == ((per p k : Nat) : Int)) = false := by rw [beq_eq_false_iff_ne]; omega
              refine LWp.dd (gs := [(46, true), (57, false)]) (hs := [.cells [I (per p j : Nat)], .cells [I (per p k : Nat)]]) hmix rfl (by kernel_rfl) (by (repeat' (with_reducible apply And.intro)); (all_goals first | (with_reducible exact trivial) | (with_reducible rfl) | (with_reducible assumption) | ((with_reducible apply isB); first | exact rfl | exact beq_self_eq_true _) | omega | ((first | exact hg1 | exact hg3)))) ?_
              exact ⟨(), trivial, Ent.el ⟨rfl, rfl, rfl, rfl, rfl, by show B false = B _; simp [g2], trivial⟩⟩
        intro _ _
        refine LWp.ite rfl (fun he => ?_) (fun he => LWp.skip ?_)
        · rw [decide_eq_true_iff] at he
          have hno : kinB t p = false := by
            rw [Bool.eq_false_iff]
            intro hT
            have := (kinB_at.1 hT k hkl (by rw [emk]; exact hpar)).2 j hd (by rw [emj]; exact he.1) he.2.1
            rw [emk, emj] at this
            exact he.2.2 this
          rw [hno]
          refine LWp.sx (gs := []) (hs := []) rfl trivial ?_
          refine LWp.ret (retT (.inr rfl) (.one (.tmp ?_ rfl)))
          rfl
        · rw [decide_eq_false_iff_not] at he
          refine LWp.x (gs := []) (hs := []) rfl ⟨by omega, trivial⟩ ?_
          refine ⟨j + 1, ⟨by omega, fun u hu g1 g2 => ?_⟩, by omega, Ent.el ⟨rfl, rfl, rfl, rfl, rfl, trivial⟩⟩
          by_cases e : u = j
          · subst e
            apply Decidable.byContradiction
            intro g3
            rw [emj] at g1 g3
            exact he ⟨g1, g2, g3⟩
          · exact hp2 u (by omega) g1 g2
      · simp only [decide_eq_false_iff_not, Int.ofNat_lt] at hd
        refine LWp.exit ?_
        refine LWp.x (gs := []) (hs := []) rfl ⟨by omega, trivial⟩ ?_
        refine ⟨k + 1, ⟨by omega, next (fun _ => ⟨by rw [emk]; exact h1, fun u hu g1 g2 => ?_⟩)⟩, by omega, Ent.el ⟨rfl, rfl, rfl, trivial⟩⟩
        rw [emk]
        exact hp2 u (by omega) g1 g2
    · simp only [decide_eq_false_iff_not] at hc
      exact LWp.exit ⟨(), kinB_at.2 (fun i hi => hp i (by omega)), Ent.el trivial⟩
  · intro _ h
    rw [h]
    refine LWp.sx (gs := []) (hs := []) rfl trivial ?_
    refine LWp.ret (retT (.inr rfl) (.one (.tmp ?_ rfl)))
    rfl
end Go.Px

namespace Go.Px
open Go.Proofs Go.MapKept
theorem vilB_step (t : Town) (i : Nat) (l : List Nat) (v : Int) : vilB t (i :: l) v = if (t.m i).v ≠ -1 ∧ v ≠ -1 ∧ (t.m i).v ≠ v then false else vilB t l (max v (t.m i).v) := rfl
theorem rnamed_ev {t : Town} (h : t.OK) {l : List Nat} (hll : l.length ≤ 1000) (hl : ∀ i ∈ l, i < t.ms.length) : Ev Tryz.prog 118 [.agg t.enc, ints (natI l)] (B (namedR t l)) := by
  have hln : (((natI l).map fun x => [I x]).length : Int) = l.length := by simp [natI]
  have hss := h.ear.ss5
  refine Ev.intro fn118 ?_
  refine LWp.sx (gs := []) (hs := [.ice]) rfl ⟨⟨rfl, rfl⟩, trivial⟩ ?_
  refine LWp.sx (gs := []) (hs := []) rfl trivial ?_
  refine LWp.sx (gs := []) (hs := []) rfl trivial ?_
  refine LWp.ent (Ent.nilLin (t := 5) 3 1 rfl) ?_
  refine LWp.seq (LWp.seq ?_)
  refine LWp.x (gs := []) (hs := []) rfl trivial ?_
  have hN : namedR t l = (vilB t l (-1) && (decide (l.length < 2) || sharedG t.ear (l.map fun i => (t.m i).sp))) := rfl
  refine LWp.blockT (fun _ : Unit => vilB t l (-1) = true) (fun _ => el [(1, ints (natI l)), (2, .pi t.enc), (5, .lin 3 1 ((l.map fun i => (t.m i).sp).map fun x => [I x]))]) (fun _ => []) (fun _ => []) ?_ ?_
  · refine LWp.loopN (X := Nat × Int) (fun y => y.1 ≤ l.length ∧ (-1 ≤ y.2 ∧ y.2 ≤ 4) ∧ vilB t l (-1) = vilB t (l.drop y.1) y.2) (fun y => el [(1, ints (natI l)), (2, .pi t.enc), (5, .lin 3 1 (((l.take y.1).map fun i => (t.m i).sp).map fun x => [I x])), (6, I y.2), (7, I y.1)]) (fun _ => []) (fun _ => []) (fun y => l.length - y.1) (0, -1) ⟨by simp, by simp, rfl⟩
      (Ent.el ⟨rfl, rfl, rfl, rfl, rfl, trivial⟩) ?_
    rintro ⟨k, v⟩ ⟨hk, hv, hi⟩
    simp only at hk hv hi ⊢
    refine LWp.seq (LWp.seq ?_)
    refine LWp.x (gs := []) (hs := []) rfl trivial ?_
    refine LWp.ite rfl (fun hc => ?_) (fun hc => ?_)
    · simp only [decide_eq_true_eq] at hc
      have hkl : k < l.length := by omega
      have hg := ints_get l hkl
      have hd := drop_cons (get_per hkl)
      have htk := take_succ_per l hkl
      have hil := hl (per l k) (List.mem_of_getElem? (get_per hkl))
      generalize per l k = i at hg hd htk hil
      obtain ⟨x, hx⟩ := ex_get hil
      have ox := h.men i x hx
      have v0 := ox.v0
      have v1 := ox.v1
      have hv4 := h.vil1
      have emi := Town.m_get hx
      rw [hd, vilB_step, emi] at hi
      have hlk : ((l.take k).map fun i => (t.m i).sp).length ≤ 1000 := by simp; omega
      refine LWp.skip (LWp.seq (LWp.block ?_))
      refine LWp.sd (gs := []) (hs := [.cells [I (i : Nat)], .cells x.enc, .lin]) hmix rfl (by kernel_rfl) ⟨⟨by omega, hg⟩, ⟨by omega, by simp [hx]⟩, rfl, ⟨rfl, rfl, rfl, by decide⟩, trivial⟩ ?_
      refine LWp.ent (Ent.freezeLbox (t := 8) rfl) ?_
      refine LWp.ent (Ent.el (l := [(1, ints (natI l)), (2, .pi t.enc), (5, .lin 3 1 (((l.take k).map fun i => (t.m i).sp).map fun x => [I x])), (6, I v), (7, I k), (8, .pi x.enc)]) ⟨rfl, rfl, rfl, rfl, rfl, rfl, trivial⟩) ?_
      refine LWp.sx (gs := []) (hs := [.ice]) rfl ⟨rfl, ⟨by simp only [List.length_map, chunk, List.length_cons, List.length_nil] at hlk ⊢; omega, by simp only [List.length_map, chunk, List.length_cons, List.length_nil] at hlk ⊢; omega⟩, trivial⟩ ?_
      refine LWp.ent (Ent.el (l := [(1, ints (natI l)), (2, .pi t.enc), (5, .lin 3 1 (((l.take (k + 1)).map fun i => (t.m i).sp).map fun x => [I x])), (6, I v), (7, I k), (8, .pi x.enc)]) ⟨rfl, rfl, ?_, rfl, rfl, rfl, trivial⟩) ?_
      · show AV.lin 3 1 _ = AV.lin 3 1 _
        rw [htk, List.map_append, List.map_append]
        simp only [List.map_cons, List.map_nil, emi]
        rfl
      refine LWp.seq (LWp.cutX (fun _ : Unit => True) (fun _ => el [(1, ints (natI l)), (2, .pi t.enc), (5, .lin 3 1 (((l.take (k + 1)).map fun i => (t.m i).sp).map fun x => [I x])), (6, I v), (7, I k), (8, .pi x.enc), (40, B (decide (x.v ≠ -1 ∧ v ≠ -1 ∧ x.v ≠ v)))]) (fun _ => []) (fun _ => []) ?_ ?_)
      · by_cases g1 : x.v = -1
        · have z1 : (x.v != -1) = false := by rw [g1]; rfl
          refine LWp.x (gs := [(31, false), (35, false)]) (hs := []) rfl (by (repeat' (with_reducible apply And.intro)); (all_goals first | (with_reducible exact trivial) | (with_reducible rfl) | (with_reducible assumption) | ((with_reducible apply isB); first | exact rfl | exact beq_self_eq_true _) | omega | ((rfl)))) ?_
          exact ⟨(), trivial, Ent.el ⟨rfl, rfl, rfl, rfl, rfl, rfl, by show B false = B _; simp [g1], trivial⟩⟩
        · have z1 : (x.v != -1) = true := by rw [bne_iff_ne]; exact g1
          by_cases g2 : v = -1
          · have z2 : (v != -1) = false := by rw [g2]; rfl
            refine LWp.x (gs := [(31, true), (35, false)]) (hs := []) rfl (by (repeat' (with_reducible apply And.intro)); (all_goals first | (with_reducible exact trivial) | (with_reducible rfl) | (with_reducible assumption) | ((with_reducible apply isB); first | exact rfl | exact beq_self_eq_true _) | omega | ((rfl)))) ?_
            exact ⟨(), trivial, Ent.el ⟨rfl, rfl, rfl, rfl, rfl, rfl, by show B false = B _; simp [g2], trivial⟩⟩
          · have z2 : (v != -1) = true := by rw [bne_iff_ne]; exact g2
            refine LWp.x (gs := [(31, true), (35, true)]) (hs := []) rfl (by (repeat' (with_reducible apply And.intro)); (all_goals first | (with_reducible exact trivial) | (with_reducible rfl) | (with_reducible assumption) | ((with_reducible apply isB); first | exact rfl | exact beq_self_eq_true _) | omega | ((rfl)))) ?_
            refine ⟨(), trivial, Ent.el ⟨rfl, rfl, rfl, rfl, rfl, rfl, ?_, trivial⟩⟩
            show B (x.v != v) = B _
            refine congrArg B ?_
            rw [Bool.eq_iff_iff, bne_iff_ne, decide_eq_true_iff]
            exact ⟨fun h => ⟨g1, g2, h⟩, fun h => h.2.2⟩
      intro _ _
      refine LWp.ite rfl (fun hb => ?_) (fun hb => LWp.skip ?_)
      · rw [if_pos (of_decide_eq_true hb)] at hi
        have hF : namedR t l = false := by rw [hN, hi]; rfl
        rw [hF]
        refine LWp.sx (gs := []) (hs := []) rfl trivial ?_
        refine LWp.ret (retT (.inr rfl) (.one (.tmp ?_ rfl)))
        rfl
      · rw [if_neg (of_decide_eq_false hb)] at hi
        refine LWp.x (gs := []) (hs := []) rfl trivial ?_
        refine LWp.x (gs := []) (hs := []) rfl ⟨by omega, trivial⟩ ?_
        exact ⟨(k + 1, max v x.v), ⟨by simp only; omega, by simp only; omega, hi⟩, by simp only; omega, Ent.el ⟨rfl, rfl, rfl, rfl, rfl, trivial⟩⟩
    · simp only [decide_eq_false_iff_not] at hc
      have e : k = l.length := by omega
      subst e
      rw [List.drop_length] at hi
      rw [List.take_length]
      exact LWp.exit ⟨(), hi, Ent.el ⟨rfl, rfl, rfl, trivial⟩⟩
  · intro _ hT
    rw [hT, Bool.true_and] at hN
    refine LWp.ent (Ent.freezeLin (t := 5) rfl) ?_
    by_cases h2 : l.length < 2
    · have hF : namedR t l = true := by rw [hN, decide_eq_true h2, Bool.true_or]
      rw [hF]
      have z : decide (((((natI l).map fun x => [I x]).length : Nat) : Int) < 2) = true := by rw [hln, decide_eq_true_iff]; omega
      refine LWp.sx (gs := [(48, true)]) (hs := []) rfl (by (repeat' (with_reducible apply And.intro)); (all_goals first | (with_reducible exact trivial) | (with_reducible rfl) | (with_reducible assumption) | ((with_reducible apply isB); first | exact rfl | exact beq_self_eq_true _) | omega | ((rfl)))) ?_
      refine LWp.ret (retT (.inr rfl) (.one (.tmp ?_ rfl)))
      rfl
    · have hF : namedR t l = sharedG t.ear (l.map fun i => (t.m i).sp) := by rw [hN, decide_eq_false h2, Bool.false_or]
      rw [hF]
      have z : decide (((((natI l).map fun x => [I x]).length : Nat) : Int) < 2) = false := by rw [hln, decide_eq_false_iff_not]; omega
      have hsh := shared_ev h.ear (l.map fun i => (t.m i).sp) (by
        intro j hj
        obtain ⟨i, hi, rfl⟩ := List.mem_map.1 hj
        have o := h.at (hl i hi)
        exact ⟨o.sp0, o.sp1⟩)
      have hle := least_ev (markL (shP t.ear (l.map fun i => (t.m i).sp)))
      have hG : sharedG t.ear (l.map fun i => (t.m i).sp) = decide (0 ≤ idxF id (markL (shP t.ear (l.map fun i => (t.m i).sp))) 0) := rfl
      rw [hG]
      generalize markL (shP t.ear (l.map fun i => (t.m i).sp)) = M at hsh hle
      refine LWp.sx (gs := [(48, false)]) (hs := [.ret (bools M), .ret (I (idxF id M 0))]) rfl ⟨z, z, z, ⟨z, hsh⟩, ⟨z, hle⟩, z, z, trivial⟩ ?_
      refine LWp.ret (retT (.inr rfl) (.one (.tmp ?_ rfl)))
      show B (decide (idxF id M 0 ≥ 0)) = B _
      rfl
end Go.Px

namespace Go.Px
open Go.Proofs Go.MapKept
theorem bornAt_of (t : Town) (p : List Nat) (who : Nat) : ∀ k, bornAt t p k who = (ofK p who k).foldl (fun s i => (max s.1 (t.m i).lo, min s.2 (t.m i).hi)) (0, 199)
  | 0 => rfl
  | k + 1 => by
    rw [bornAt_succ, ofK_succ, List.foldl_append, ← bornAt_of t p who k]
    by_cases e : per p k = who
    · rw [if_pos e, if_pos (by rw [beq_iff_eq]; exact e)]; rfl
    · rw [if_neg e, if_neg (by rw [beq_iff_eq]; exact e)]; rfl
theorem born0_BW {t : Town} (h : t.OK) (p : List Nat) (w : Nat) : BW 199 w (born0 t p w) := by
  refine ⟨born0_len t p w, fun k => ?_⟩
  by_cases hk : k < w
  · rw [born0_get t p hk]
    have := bornAt_in h p k t.ms.length (Nat.le_refl _)
    unfold spB; omega
  · have e : spAt (born0 t p w) k = (0, 0) := by
      unfold spAt
      rw [List.getElem?_eq_none (by rw [born0_len]; omega)]; rfl
    rw [e]
    unfold spB; simp
set_option maxHeartbeats 1000000 in
theorem ryears_ev {t : Town} (h : t.OK) {p : List Nat} (hg : Grp t.ms.length p) (hk1 : Kin1 t p) : Ev Tryz.prog 74 [.agg t.enc, ints (natI p)] (spans (yearsW t p (cnt p))) := by
  have hm6 := h.ms6
  have hle := hg.le
  have hsm := small_of hm6 hg
  have hpl := hg.len
  have hml : ((t.ms.map Men.enc).length : Int) = t.ms.length := by simp
  have hcount := rcount3_ev hsm
  refine Ev.intro fn74 ?_
  refine LWp.sx (gs := []) (hs := [.ice]) rfl ⟨⟨rfl, rfl⟩, trivial⟩ ?_
  refine LWp.sx (gs := []) (hs := []) rfl trivial ?_
  refine LWp.ent (Ent.nilLin (t := 5) 43 2 rfl) ?_
  refine LWp.seq (LWp.seq ?_)
  refine LWp.x (gs := []) (hs := []) rfl trivial ?_
  refine LWp.blockT (fun _ : Unit => True) (fun _ => el [(1, ints (natI p)), (2, .pi t.enc), (5, .lin 43 2 ((born0 t p (cnt p)).map sp2))]) (fun _ => []) (fun _ => []) ?_ ?_
  · refine LWp.loopN (fun k : Nat => k ≤ cnt p) (fun k => el [(1, ints (natI p)), (2, .pi t.enc), (5, .lin 43 2 ((born0 t p k).map sp2)), (6, I k)]) (fun _ => []) (fun _ => []) (fun k => cnt p - k) 0 (by omega)
      (Ent.el ⟨rfl, rfl, rfl, rfl, trivial⟩) ?_
    intro k hk
    refine LWp.seq (LWp.seq ?_)
    refine LWp.x (gs := []) (hs := [.ret (I (cnt p : Nat))]) rfl ⟨hcount, trivial⟩ ?_
    refine LWp.ite rfl (fun hc => ?_) (fun hc => ?_)
    · simp only [decide_eq_true_eq, Int.ofNat_lt] at hc
      have hof := rof_ev (p := p) (by omega) k
      have hofl : ofL p k = ofK p k t.ms.length := by unfold ofL ofK; rw [hpl]
      have hmem : ∀ i ∈ ofL p k, i < t.ms.length := fun i hi => by rw [← hpl]; exact (ofL_mem.1 hi).1
      have hb := bornAt_of t p k t.ms.length
      rw [← hofl] at hb
      have hlen : (ofL p k).length ≤ 6 := by
        rw [hofl]
        have := ofK_len p k t.ms.length
        omega
      have hsucc : born0 t p (k + 1) = born0 t p k ++ [bornAt t p t.ms.length k] := by unfold born0; rw [List.range_succ, List.map_append]; rfl
      have hbl := born0_len t p k
      rw [hb] at hsucc
      generalize ofL p k = l at hof hmem hsucc hlen
      refine LWp.skip (LWp.seq (LWp.block ?_))
      refine LWp.sx (gs := []) (hs := [.lin]) rfl ⟨rfl, ⟨rfl, rfl, rfl, Nat.le_refl 2⟩, trivial⟩ ?_
      refine LWp.shareB (t := 7) rfl fun b7 => ?_
      refine LWp.sx (gs := []) (hs := [.ret (ints (natI l))]) rfl ⟨hof, trivial⟩ ?_
      refine LWp.ent (Ent.el (l := [(1, ints (natI p)), (2, .pi t.enc), (5, .lin 43 2 ((born0 t p k).map sp2)), (6, I k), (7, .po b7 0), (8, ints (natI l))]) ⟨rfl, rfl, rfl, rfl, rfl, rfl, trivial⟩) ?_
      refine LWp.seq (LWp.seq ?_)
      refine LWp.x (gs := []) (hs := []) rfl trivial ?_
      have hln : (((natI l).map fun x => [I x]).length : Int) = l.length := by simp [natI]
      refine LWp.blockT (fun _ : Unit => True) (fun _ => el [(1, ints (natI p)), (2, .pi t.enc), (5, .lin 43 2 ((born0 t p k).map sp2)), (6, I k), (7, .po b7 0)]) (fun _ => [(b7, .cells 43 (sp2 (l.foldl (fun s i => (max s.1 (t.m i).lo, min s.2 (t.m i).hi)) (0, 199))))]) (fun _ => []) ?_ ?_
      · refine LWp.loopN (fun j : Nat => j ≤ l.length) (fun j => el [(1, ints (natI p)), (2, .pi t.enc), (5, .lin 43 2 ((born0 t p k).map sp2)), (6, I k), (7, .po b7 0), (8, ints (natI l)), (9, I j)]) (fun j => [(b7, .cells 43 (sp2 ((l.take j).foldl (fun s i => (max s.1 (t.m i).lo, min s.2 (t.m i).hi)) (0, 199))))]) (fun _ => []) (fun j => l.length - j) 0 (by omega)
          (Ent.trans (Ent.ofH rfl) (Ent.el ⟨rfl, rfl, rfl, rfl, rfl, rfl, rfl, trivial⟩)) ?_
        intro j hj
        refine LWp.seq (LWp.seq ?_)
        refine LWp.x (gs := []) (hs := []) rfl trivial ?_
        refine LWp.ite rfl (fun hd => ?_) (fun hd => ?_)
        · simp only [decide_eq_true_eq] at hd
          have hjl : j < l.length := by omega
          have hgi := ints_get l hjl
          have htk := take_succ_per l hjl
          have hil := hmem (per l j) (List.mem_of_getElem? (get_per hjl))
          generalize per l j = i at hgi htk hil
          obtain ⟨x, hx⟩ := ex_get hil
          have emi := Town.m_get hx
          have hfs : (l.take (j + 1)).foldl (fun s i => (max s.1 (t.m i).lo, min s.2 (t.m i).hi)) (0, 199) = (max ((l.take j).foldl (fun s i => (max s.1 (t.m i).lo, min s.2 (t.m i).hi)) (0, 199)).1 x.lo, min ((l.take j).foldl (fun s i => (max s.1 (t.m i).lo, min s.2 (t.m i).hi)) (0, 199)).2 x.hi) := by
            rw [htk, List.foldl_append]
            simp only [List.foldl_cons, List.foldl_nil, emi]
          generalize (l.take j).foldl (fun s i => (max s.1 (t.m i).lo, min s.2 (t.m i).hi)) ((0, 199) : Sp) = s at hfs
          refine LWp.skip (LWp.seq (LWp.block ?_))
          refine LWp.sd (gs := []) (hs := [.cells [I (i : Nat)], .cells x.enc, .lin]) hmix rfl (by kernel_rfl) ⟨⟨by omega, hgi⟩, ⟨by omega, by simp [hx]⟩, rfl, ⟨rfl, rfl, rfl, Nat.le_refl 2⟩, trivial⟩ ?_
          refine LWp.ent (Ent.freezeLbox (t := 10) rfl) ?_
          refine LWp.ent (Ent.el (l := [(1, ints (natI p)), (2, .pi t.enc), (5, .lin 43 2 ((born0 t p k).map sp2)), (6, I k), (7, .po b7 0), (8, ints (natI l)), (9, I j), (10, .pi (sp2 (x.lo, x.hi)))]) ⟨rfl, rfl, rfl, rfl, rfl, rfl, rfl, rfl, trivial⟩) ?_
          refine LWp.hx (gs := []) (hs := [.at 0, .at 0, .stO 0]) rfl ⟨rfl, rfl, ⟨rfl, rfl, rfl, rfl, Nat.le_refl 2⟩, trivial⟩ ?_
          refine LWp.x (gs := []) (hs := []) rfl ⟨by omega, trivial⟩ ?_
          refine ⟨j + 1, by omega, by omega, Ent.trans (Ent.ofH ?_) (Ent.el ⟨rfl, rfl, rfl, rfl, rfl, rfl, rfl, trivial⟩)⟩
          rw [hfs]; rfl
        · simp only [decide_eq_false_iff_not] at hd
          have e : j = l.length := by omega
          subst e
          rw [List.take_length]
          exact LWp.exit ⟨(), trivial, Ent.el ⟨rfl, rfl, rfl, rfl, rfl, trivial⟩⟩
      · intro _ _
        generalize l.foldl (fun s i => (max s.1 (t.m i).lo, min s.2 (t.m i).hi)) ((0, 199) : Sp) = s at hsucc
        refine LWp.x (gs := []) (hs := [.at 0, .ice]) rfl ⟨rfl, rfl, ⟨by simp only [List.length_map, chunk, List.length_cons, List.length_nil]; omega, by simp only [List.length_map, chunk, List.length_cons, List.length_nil]; omega⟩, trivial⟩ ?_
        refine LWp.x (gs := []) (hs := []) rfl ⟨by omega, trivial⟩ ?_
        refine ⟨k + 1, by omega, by omega, Ent.trans (Ent.dropH 0) (Ent.el ⟨rfl, rfl, ?_, rfl, trivial⟩)⟩
        show AV.lin _ 2 _ = AV.lin _ 2 _
        rw [hsucc, List.map_append]; rfl
    · simp only [decide_eq_false_iff_not, Int.ofNat_lt] at hc
      have e : k = cnt p := by omega
      subst e
      exact LWp.exit ⟨(), trivial, Ent.el ⟨rfl, rfl, rfl, trivial⟩⟩
  intro _ _
  have hlen0 : ((born0 t p (cnt p)).map sp2).length = cnt p := by rw [List.length_map, born0_len]
  have h0 : RInv t p (born0 t p (cnt p)) true := ⟨born0_len _ _ _, fun _ => born0_BW h p _, fun _ => rfl, fun h => by cases h⟩
  refine LWp.share (t := 5) rfl (fun he => ?_) (fun bo cap => ?_)
  · have hc0 : cnt p = 0 := by
      have := congrArg List.length he
      rw [hlen0] at this
      simpa using this
    have hn0 : t.ms.length = 0 := by
      by_cases hz : t.ms.length = 0
      · exact hz
      · have := hg.lt 0 (by omega)
        omega
    have hms : t.ms = [] := List.length_eq_zero_iff.1 hn0
    have hY : yearsW t p (cnt p) = [] := by
      have h1 : kids t.ms p = [] := by rw [hms]; rfl
      unfold yearsW
      rw [h1, hc0]
      rfl
    rw [hY]
    refine LWp.ent (Ent.nilSl (t := 5) 2 rfl) ?_
    refine LWp.seq (LWp.seq ?_)
    refine LWp.x (gs := []) (hs := []) rfl trivial ?_
    refine LWp.blockT (fun _ : Unit => True) (fun _ => el [(5, spans [])]) (fun _ => []) (fun _ => []) ?_ ?_
    · refine LWp.loopN (X := Bool) (fun _ => True) (fun more => el [(1, ints (natI p)), (2, .pi t.enc), (5, spans []), (11, B more)]) (fun _ => []) (fun _ => []) (fun more => if more = true then 1 else 0) true trivial
        (Ent.el ⟨rfl, rfl, rfl, rfl, trivial⟩) ?_
      intro more _
      refine LWp.seq (LWp.seq ?_)
      cases more with
      | false =>
        refine LWp.x (gs := [(59, false)]) (hs := []) rfl (by (repeat' (with_reducible apply And.intro)); (all_goals first | (with_reducible exact trivial) | (with_reducible rfl) | (with_reducible assumption) | ((with_reducible apply isB); first | exact rfl | exact beq_self_eq_true _) | omega | ((rfl)))) ?_
        exact LWp.ite (b := false) rfl (fun h => by cases h) (fun _ => LWp.exit ⟨(), trivial, Ent.el ⟨rfl, trivial⟩⟩)
      | true =>
        have hem := rempty_ev [] (by simp)
        refine LWp.x (gs := [(59, true)]) (hs := [.ret (B (emptyS []))]) rfl ⟨rfl, ⟨rfl, hem⟩, rfl, rfl, trivial⟩ ?_
        refine LWp.ite (b := true) rfl (fun _ => LWp.skip ?_) (fun h => by cases h)
        refine LWp.block ?_
        refine LWp.sx (gs := []) (hs := []) rfl trivial ?_
        refine LWp.sx (gs := []) (hs := []) rfl trivial ?_
        refine LWp.block ?_
        refine LWp.loopN (X := Unit) (fun _ => True) (fun _ => el [(1, ints (natI p)), (2, .pi t.enc), (5, spans []), (11, B false), (12, I 0)]) (fun _ => []) (fun _ => []) (fun _ => 0) () trivial (Ent.el ⟨rfl, rfl, rfl, rfl, rfl, trivial⟩) ?_
        intro _ _
        refine LWp.seq (LWp.seq ?_)
        refine LWp.x (gs := []) (hs := []) rfl trivial ?_
        refine LWp.ite (b := false) (by show B _ = B _; refine congrArg B ?_; rw [decide_eq_false_iff_not, hml]; omega) (fun h => by cases h) (fun _ => ?_)
        exact LWp.exit ⟨false, trivial, by simp, Ent.el ⟨rfl, rfl, rfl, rfl, trivial⟩⟩
    · intro _ _
      refine LWp.sx (gs := []) (hs := []) rfl trivial ?_
      refine LWp.ret (retT (.inr rfl) (.one (.tmp ?_ rfl)))
      rfl
  have hso : ((born0 t p (cnt p)).map sp2).length = cnt p := hlen0
  refine LWp.ent (Ent.el (l := [(1, ints (natI p)), (2, .pi t.enc), (5, .so bo (cnt p) cap)]) ⟨rfl, rfl, by show AV.so _ _ _ = _; rw [hso], trivial⟩) ?_
  refine LWp.seq (LWp.seq ?_)
  refine LWp.x (gs := []) (hs := []) rfl trivial ?_
  refine LWp.blockT (Y := List Sp) (fun b => yearsW t p (cnt p) = b ∧ b.length = cnt p) (fun _ => el [(5, .so bo (cnt p) cap)]) (fun b => [(bo, .arr 43 2 cap (b.map sp2))]) (fun _ => []) ?_ ?_
  · refine LWp.loopN (X := List Sp × Bool) (fun x => RInv t p x.1 x.2) (fun x => el [(1, ints (natI p)), (2, .pi t.enc), (5, .so bo (cnt p) cap), (11, B x.2)]) (fun x => [(bo, .arr 43 2 cap (x.1.map sp2))]) (fun _ => []) (fun x => if (x.2 && !emptyS x.1) = true then width x.1 + 1 else 0) (born0 t p (cnt p), true) h0
      (Ent.el ⟨rfl, rfl, rfl, rfl, trivial⟩) ?_
    rintro ⟨b, more⟩ hi
    simp only at hi ⊢
    have hbl := hi.len
    have hem := rempty_ev b (by omega)
    refine LWp.seq (LWp.cutX (fun _ : Unit => True) (fun _ => el [(1, ints (natI p)), (2, .pi t.enc), (5, .so bo (cnt p) cap), (11, B more), (63, B (more && !emptyS b))]) (fun _ => [(bo, .arr 43 2 cap (b.map sp2))]) (fun _ => []) ?_ ?_)
    · cases more with
      | false =>
        refine LWp.x (gs := [(59, false)]) (hs := []) rfl (by (repeat' (with_reducible apply And.intro)); (all_goals first | (with_reducible exact trivial) | (with_reducible rfl) | (with_reducible assumption) | ((with_reducible apply isB); first | exact rfl | exact beq_self_eq_true _) | omega | ((rfl)))) ?_
        exact ⟨(), trivial, Ent.el ⟨rfl, rfl, rfl, rfl, rfl, trivial⟩⟩
      | true =>
        refine LWp.x (gs := [(59, true)]) (hs := [.retB [spans b] (B (emptyS b))]) rfl ⟨rfl, ⟨rfl, hem, rfl, BorA.so (i := 0) (T := 43) _ (by rw [List.length_map]; exact hbl.symm) rfl, trivial⟩, rfl, rfl, trivial⟩ ?_
        exact ⟨(), trivial, Ent.el ⟨rfl, rfl, rfl, rfl, rfl, trivial⟩⟩
    intro _ _
    refine LWp.ite rfl (fun hc => LWp.skip ?_) (fun hc => LWp.exit ⟨b, ⟨hi.done hc, hbl⟩, Ent.el ⟨rfl, trivial⟩⟩)
    rw [Bool.and_eq_true, Bool.not_eq_true'] at hc
    obtain ⟨hm1, hb1⟩ := hc
    subst hm1
    obtain ⟨n1, n2⟩ := hi.next h hg hk1 hb1
    have hbw := hi.bw hb1
    refine LWp.block ?_
    refine LWp.sx (gs := []) (hs := []) rfl trivial ?_
    refine LWp.sx (gs := []) (hs := []) rfl trivial ?_
    refine LWp.block ?_
    refine LWp.loopN (fun k : Nat => k ≤ t.ms.length ∧ BW (199 + 60 * k) (cnt p) (yrRound (kidsN t.ms p k) (b, false)).1) (fun k => el [(1, ints (natI p)), (2, .pi t.enc), (5, .so bo (cnt p) cap), (11, B (yrRound (kidsN t.ms p k) (b, false)).2), (12, I k)]) (fun k => [(bo, .arr 43 2 cap ((yrRound (kidsN t.ms p k) (b, false)).1.map sp2))]) (fun _ => []) (fun k => t.ms.length - k) 0 ⟨by omega, by simpa [kidsN, yrRound] using hbw⟩
      (Ent.el ⟨rfl, rfl, rfl, rfl, rfl, trivial⟩) ?_
    rintro k ⟨hk, hB⟩
    refine LWp.seq (LWp.seq ?_)
    refine LWp.x (gs := []) (hs := []) rfl trivial ?_
    refine LWp.ite rfl (fun hd => ?_) (fun hd => ?_)
    · simp only [decide_eq_true_eq] at hd
      have hkl : k < t.ms.length := by omega
      obtain ⟨x, hx⟩ := ex_get hkl
      have ox := h.men k x hx
      have q0 := ox.par0
      have q1 := ox.par1
      refine LWp.skip (LWp.seq (LWp.block ?_))
      refine LWp.sx (gs := []) (hs := [.cells x.enc]) rfl ⟨⟨by omega, by simp [hx]⟩, trivial⟩ ?_
      refine LWp.ent (Ent.el (l := [(1, ints (natI p)), (2, .pi t.enc), (5, .so bo (cnt p) cap), (11, B (yrRound (kidsN t.ms p k) (b, false)).2), (12, I k), (13, I x.par)]) ⟨rfl, rfl, rfl, rfl, rfl, rfl, trivial⟩) ?_
      refine LWp.seq (LWp.seq ?_)
      refine LWp.x (gs := []) (hs := []) rfl trivial ?_
      by_cases hp : x.par = -1
      · refine LWp.ite (b := true) (by show B _ = B _; exact congrArg B (by rw [beq_iff_eq]; exact hp)) (fun _ => ?_) (fun h => by cases h)
        have ek := kidsN_no (p := p) hx hp
        refine LWp.exit ?_
        refine LWp.x (gs := []) (hs := []) rfl ⟨by omega, trivial⟩ ?_
        refine ⟨k + 1, ⟨by omega, ?_⟩, by omega, Ent.trans (Ent.ofH ?_) (Ent.el ⟨rfl, rfl, rfl, ?_, rfl, trivial⟩)⟩
        · rw [ek]; exact hB.mono (by omega)
        · rw [ek]
        · rw [ek]; rfl
      refine LWp.ite (b := false) (by show B _ = B _; exact congrArg B (by rw [beq_eq_false_iff_ne]; exact hp)) (fun h => by cases h) (fun _ => LWp.skip ?_)
      have ek := kidsN_yes (p := p) hx hp
      have er : yrRound (kidsN t.ms p (k + 1)) (b, false) = (yrStep (yrRound (kidsN t.ms p k) (b, false)).1 (per p x.par.toNat) (per p k), (yrRound (kidsN t.ms p k) (b, false)).2 || yrMore (yrRound (kidsN t.ms p k) (b, false)).1 (per p x.par.toNat) (per p k)) := by
        rw [ek, yrRound_append]
        rfl
      have p1 := hg.lt k hkl
      have p2 := hg.lt x.par.toNat (by omega)
      have hg1 := ints_get p (k := k) (by omega)
      have hg2 := ints_get p (k := x.par.toNat) (by omega)
      have hB2 : BW (199 + 60 * ((k + 1 : Nat) : Int)) (cnt p) (yrStep (yrRound (kidsN t.ms p k) (b, false)).1 (per p x.par.toNat) (per p k)) := by
        have := hB.step (by omega) p2 p1
        rw [show (199 + 60 * ((k + 1 : Nat) : Int)) = 199 + 60 * (k : Int) + 60 by omega]
        exact this
      generalize (yrRound (kidsN t.ms p k) (b, false)).1 = bk at *
      generalize (yrRound (kidsN t.ms p k) (b, false)).2 = mk at *
      generalize per p x.par.toNat = v2 at *
      generalize hv1 : per p k = v1 at *
      have hl := hB.len
      have bx := hB.bd v2
      have by_ := hB.bd v1
      have s1 := spans_get (b := bk) (k := v1) (by omega)
      have s2 := spans_get (b := bk) (k := v2) (by omega)
      have hstep : yrStep bk v2 v1 = (bk.set v2 (older (spAt bk v2) (spAt bk v1))).set v1 (younger (spAt bk v2) (spAt bk v1)) := rfl
      have hmore : yrMore bk v2 v1 = (decide (older (spAt bk v2) (spAt bk v1) ≠ spAt bk v2) || decide (younger (spAt bk v2) (spAt bk v1) ≠ spAt bk v1)) := rfl
      rw [hstep] at er hB2
      rw [hmore] at er
      have ho : spB 1000000 (older (spAt bk v2) (spAt bk v1)) := by unfold spB older at *; simp only; omega
      have hyo : spB 1000000 (younger (spAt bk v2) (spAt bk v1)) := by unfold spB younger at *; simp only; omega
      have bx' : spB 1000000 (spAt bk v2) := by unfold spB at *; omega
      have by' : spB 1000000 (spAt bk v1) := by unfold spB at *; omega
      have e1 : older (spAt bk v2) (spAt bk v1) = (max (spAt bk v2).1 ((spAt bk v1).1 - 60), min (spAt bk v2).2 ((spAt bk v1).2 - 15)) := rfl
      have e2 : younger (spAt bk v2) (spAt bk v1) = (max (spAt bk v1).1 ((spAt bk v2).1 + 15), min (spAt bk v1).2 ((spAt bk v2).2 + 60)) := rfl
      generalize older (spAt bk v2) (spAt bk v1) = o1 at *
      generalize younger (spAt bk v2) (spAt bk v1) = o2 at *
      generalize hsx : spAt bk v2 = sx at *
      generalize hsy : spAt bk v1 = sy at *
      unfold spB at bx by_
      have n1' : ((v1 : Nat) : Int).toNat * 2 = v1 * 2 + 0 := by omega
      have n2' : ((v2 : Nat) : Int).toNat * 2 = v2 * 2 + 0 := by omega
      refine LWp.sd (gs := []) (hs := [.cells [I (v1 : Nat)], .elt 0 v1 0 (sp2 sy), .cells [I (v2 : Nat)], .elt 0 v2 0 (sp2 sx), .lin, .lin]) hmix rfl (by kernel_rfl) ⟨⟨by omega, hg1⟩, ⟨by omega, by omega⟩, ⟨rfl, n1', s1⟩, ⟨by omega, hg2⟩, ⟨by omega, by omega⟩, ⟨rfl, n2', s2⟩, rfl, rfl, ⟨rfl, rfl, rfl, Nat.le_refl 2⟩, ⟨rfl, rfl, rfl, Nat.le_refl 2⟩, trivial⟩ ?_
      refine LWp.ent (Ent.trans (Ent.freezeLbox (t := 14) rfl) (Ent.freezeLbox (t := 15) rfl)) ?_
      refine LWp.ent (Ent.el (l := [(1, ints (natI p)), (2, .pi t.enc), (5, .so bo (cnt p) cap), (11, B mk), (12, I k), (13, I x.par), (14, .pi (sp2 sy)), (15, .pi (sp2 sx))]) ⟨rfl, rfl, rfl, rfl, rfl, rfl, rfl, rfl, trivial⟩) ?_
      refine LWp.sx (gs := []) (hs := [.lin]) rfl (by (repeat' (with_reducible apply And.intro)); (all_goals first | (with_reducible exact trivial) | (with_reducible rfl) | (with_reducible assumption) | ((with_reducible apply isB); first | exact rfl | exact beq_self_eq_true _) | omega | ((first | rfl | decide)))) ?_
      refine LWp.ent (Ent.freezeLbox (t := 16) rfl) ?_
      refine LWp.ent (Ent.el (l := [(1, ints (natI p)), (2, .pi t.enc), (5, .so bo (cnt p) cap), (11, B mk), (12, I k), (13, I x.par), (14, .pi (sp2 sy)), (15, .pi (sp2 sx)), (16, .pi (sp2 o1))]) ⟨rfl, rfl, rfl, rfl, rfl, rfl, rfl, rfl, by rw [e1]; rfl, trivial⟩) ?_
      refine LWp.sx (gs := []) (hs := [.lin]) rfl (by (repeat' (with_reducible apply And.intro)); (all_goals first | (with_reducible exact trivial) | (with_reducible rfl) | (with_reducible assumption) | ((with_reducible apply isB); first | exact rfl | exact beq_self_eq_true _) | omega | ((first | rfl | decide)))) ?_
      refine LWp.ent (Ent.freezeLbox (t := 17) rfl) ?_
      refine LWp.ent (Ent.el (l := [(1, ints (natI p)), (2, .pi t.enc), (5, .so bo (cnt p) cap), (11, B mk), (12, I k), (13, I x.par), (14, .pi (sp2 sy)), (15, .pi (sp2 sx)), (16, .pi (sp2 o1)), (17, .pi (sp2 o2))]) ⟨rfl, rfl, rfl, rfl, rfl, rfl, rfl, rfl, rfl, by rw [e2]; rfl, trivial⟩) ?_
      refine LWp.cutX (fun _ : Unit => True) (fun _ => el [(1, ints (natI p)), (2, .pi t.enc), (5, .so bo (cnt p) cap), (11, B (mk || (decide (o1 ≠ sx) || decide (o2 ≠ sy)))), (12, I k), (13, I x.par), (16, .pi (sp2 o1)), (17, .pi (sp2 o2))]) (fun _ => [(bo, .arr 43 2 cap (bk.map sp2))]) (fun _ => []) ?_ ?_
      · have w1 := fun (env : Env) (H : Heap) (ha : evO env (tm 121) = .agg (sp2 o1)) (hb : evO env (tm 122) = .agg (sp2 sx)) => op_neSpan (d := 123) (H := H) ha hb ho bx'
        have w2 := fun (env : Env) (H : Heap) (ha : evO env (tm 126) = .agg (sp2 o2)) (hb : evO env (tm 127) = .agg (sp2 sy)) => op_neSpan (d := 128) (H := H) ha hb hyo by'
        cases mk with
        | true =>
          refine LWp.x (gs := [(120, true), (125, true)]) (hs := []) rfl (by (repeat' (with_reducible apply And.intro)); (all_goals first | (with_reducible exact trivial) | (with_reducible rfl) | (with_reducible assumption) | ((with_reducible apply isB); first | exact rfl | exact beq_self_eq_true _) | omega | ((rfl)))) ?_
          exact ⟨(), trivial, Ent.el ⟨rfl, rfl, rfl, rfl, rfl, rfl, rfl, rfl, trivial⟩⟩
        | false =>
          by_cases h1 : o1 = sx
          · have z1 : (!decide (o1 = sx)) = false := by rw [decide_eq_true h1]; rfl
            refine LWp.x (gs := [(120, false), (125, false)]) (hs := [.op (B (!decide (o1 = sx))), .op (B (!decide (o2 = sy)))]) rfl (by (repeat' (with_reducible apply And.intro)); (all_goals first | (with_reducible exact trivial) | (with_reducible rfl) | (with_reducible assumption) | ((with_reducible apply isB); first | exact rfl | exact beq_self_eq_true _) | omega | ((first | exact w1 _ _ rfl rfl | exact w2 _ _ rfl rfl)))) ?_
            refine ⟨(), trivial, Ent.el ⟨rfl, rfl, rfl, ?_, rfl, rfl, rfl, rfl, trivial⟩⟩
            show B (!decide (o2 = sy)) = B _
            refine congrArg B ?_
            rw [Bool.eq_iff_iff]; simp [h1]
          · have z1 : (!decide (o1 = sx)) = true := by rw [decide_eq_false h1]; rfl
            refine LWp.x (gs := [(120, false), (125, true)]) (hs := [.op (B (!decide (o1 = sx)))]) rfl (by (repeat' (with_reducible apply And.intro)); (all_goals first | (with_reducible exact trivial) | (with_reducible rfl) | (with_reducible assumption) | ((with_reducible apply isB); first | exact rfl | exact beq_self_eq_true _) | omega | ((first | exact w1 _ _ rfl rfl)))) ?_
            refine ⟨(), trivial, Ent.el ⟨rfl, rfl, rfl, ?_, rfl, rfl, rfl, rfl, trivial⟩⟩
            show B true = B _
            refine congrArg B ?_
            rw [Bool.eq_iff_iff]; simp [h1]
      intro _ _
      refine LWp.seq (LWp.d (gs := []) (hs := [.cells [I (v2 : Nat)]]) hmix rfl (by kernel_rfl) ⟨⟨by omega, hg2⟩, ⟨by omega, by omega⟩, trivial⟩ ?_)
      refine WOps.hd (gs := []) (hs := [.stE 0 v2 0 (sp2 sx)]) rfl ⟨⟨rfl, n2', s2, rfl, rfl, rfl, Nat.le_refl 2⟩, trivial⟩ ?_
      have hmap : ∀ (b : List Sp) (i : Nat) (s : Sp), (b.map sp2).set i (sp2 s) = (b.set i s).map sp2 := fun b i s => by rw [List.map_set]
      refine LWp.ent (Ent.trans (Ent.ofH (H' := [(bo, .arr 43 2 cap ((bk.set v2 o1).map sp2))]) (by rw [← hmap]; rfl)) (Ent.el (l := [(1, ints (natI p)), (2, .pi t.enc), (5, .so bo (cnt p) cap), (11, B (mk || (decide (o1 ≠ sx) || decide (o2 ≠ sy)))), (12, I k), (17, .pi (sp2 o2))]) ⟨rfl, rfl, rfl, rfl, rfl, rfl, trivial⟩)) ?_
      have s3 := spans_get (b := bk.set v2 o1) (k := v1) (by rw [List.length_set]; omega)
      refine LWp.d (gs := []) (hs := [.cells [I (v1 : Nat)]]) hmix rfl (by kernel_rfl) ⟨⟨by omega, hg1⟩, ⟨by omega, by omega⟩, trivial⟩ ?_
      refine WOps.hd (gs := []) (hs := [.stE 0 v1 0 (sp2 (spAt (bk.set v2 o1) v1))]) rfl ⟨⟨rfl, n1', s3, rfl, rfl, rfl, Nat.le_refl 2⟩, trivial⟩ ?_
      refine LWp.x (gs := []) (hs := []) rfl ⟨by omega, trivial⟩ ?_
      refine ⟨k + 1, ⟨by omega, by rw [er]; exact hB2⟩, by omega, Ent.trans (Ent.ofH ?_) (Ent.el ⟨rfl, rfl, rfl, ?_, rfl, trivial⟩)⟩
      · rw [er]
        show [(bo, HObj.arr _ 2 cap (((bk.set v2 o1).map sp2).set v1 (sp2 o2)))] = _
        rw [hmap]
      · rw [er]; rfl
    · simp only [decide_eq_false_iff_not] at hd
      have e : k = t.ms.length := by omega
      subst e
      refine LWp.exit ⟨((yrRound (kids t.ms p) (b, false)).1, (yrRound (kids t.ms p) (b, false)).2), n1, ?_, Ent.el ⟨rfl, rfl, rfl, rfl, trivial⟩⟩
      simp only [Bool.true_and, hb1, Bool.not_false, if_true]
      exact n2
  · rintro b ⟨hY, hbl⟩
    rw [hY]
    refine LWp.ent (Ent.freezeArr (i := 0) (b := bo) (T := 43) (kk := 2) (cap := cap) (es := b.map sp2) 5 (by show AV.so _ _ _ = _; rw [List.length_map, hbl]) rfl) ?_
    refine LWp.sx (gs := []) (hs := []) rfl trivial ?_
    refine LWp.ret (retT (.inr rfl) (.one (.tmp ?_ rfl)))
    rfl
end Go.Px

