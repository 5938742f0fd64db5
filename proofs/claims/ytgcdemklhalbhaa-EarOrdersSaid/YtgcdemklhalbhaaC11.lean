/- Part 11 of the proofs of the outright statements of this seat (functions lowered, plain laws, contracts). No conditions. -/
import Derived.Test.YtgcdemklhalbhaaC10
namespace Go.Px
open Go.Proofs

/-- What a letter is when it can stand for one thing more. -/
def moreL (n : Int) (l : Letter) (s : Nat) : Letter := if (s : Int) = n then ⟨l.c, l.s, true⟩ else if bitI l.s s = true then l else ⟨l.c, l.s + 2 ^ s, l.q⟩
theorem bit_add4 : ∀ (n : Fin 5) (m : Fin 16) (s : Fin 4), m.1 < 2 ^ n.1 → s.1 < n.1 → m.1.testBit s.1 = false → m.1 + 2 ^ s.1 < 2 ^ n.1 ∧ ∀ k : Fin 4, m.1.testBit k.1 = true → (m.1 + 2 ^ s.1).testBit k.1 = true := by decide +kernel
theorem bit_add {a : Int} {s n : Nat} (hn : n ≤ 4) (h0 : 0 ≤ a) (h1 : a < 2 ^ n) (hs : s < n) (hb : bitI a s = false) : 0 ≤ a + 2 ^ s ∧ a + 2 ^ s < 2 ^ n ∧ ∀ k : Nat, k < n → givesB a k = true → givesB (a + 2 ^ s) k = true := by
  obtain ⟨m, rfl⟩ := Int.eq_ofNat_of_zero_le h0
  have hbit : m.testBit s = false := by
    rw [bit_gives _ _ h0, gives_bit _ _ h0] at hb
    simpa using hb
  have hm : m < 2 ^ n := by
    have := h1
    rw [← pow_cast] at this
    omega
  have h16 : 2 ^ n ≤ 2 ^ 4 := Nat.pow_le_pow_right (by omega) hn
  obtain ⟨k1, k2⟩ := bit_add4 ⟨n, by omega⟩ ⟨m, by omega⟩ ⟨s, by omega⟩ hm hs hbit
  simp only at k1 k2
  have e : (m : Int) + 2 ^ s = ((m + 2 ^ s : Nat) : Int) := by rw [Int.natCast_add, pow_cast]
  rw [e]
  refine ⟨Int.natCast_nonneg _, by rw [← pow_cast]; exact Int.ofNat_lt.2 k1, fun k hk hg => ?_⟩
  rw [gives_bit _ _ (Int.natCast_nonneg m), Int.toNat_natCast] at hg
  rw [gives_bit _ _ (Int.natCast_nonneg (m + 2 ^ s)), Int.toNat_natCast]
  exact k2 ⟨k, by omega⟩ hg
theorem moreL_ok {n : Int} (n1 : 1 ≤ n) (n4 : n ≤ 4) {l : Letter} (h0 : 0 ≤ l.s) (h1 : l.s < 2 ^ n.toNat) (hq : l.s = 0 → l.q = true) {s : Nat} (hs : (s : Int) ≤ n) :
    (moreL n l s).c = l.c ∧ 0 ≤ (moreL n l s).s ∧ (moreL n l s).s < 2 ^ n.toNat ∧ ((moreL n l s).s = 0 → (moreL n l s).q = true) ∧ LeL n.toNat l (moreL n l s) := by
  unfold moreL
  by_cases e : (s : Int) = n
  · rw [if_pos e]
    exact ⟨rfl, h0, h1, fun _ => rfl, fun _ => rfl, fun _ _ h => h⟩
  · rw [if_neg e]
    by_cases hb : bitI l.s s = true
    · rw [if_pos hb]
      exact ⟨rfl, h0, h1, hq, id, fun _ _ h => h⟩
    · rw [if_neg hb]
      obtain ⟨k1, k2, k3⟩ := bit_add (s := s) (n := n.toNat) (by omega) h0 h1 (by omega) (by simpa using hb)
      have hp : (0 : Int) < 2 ^ s := Int.pow_pos (by omega)
      refine ⟨rfl, k1, k2, fun h => ?_, id, k3⟩
      simp only at h
      omega

theorem four_get {s : Nat} (h : s < 4) : ([[I 1], [I 2], [I 4], [I 8]] : List (List AV))[s]? = some [I (2 ^ s)] := by
  match s, h with
  | 0, _ => rfl
  | 1, _ => rfl
  | 2, _ => rfl
  | 3, _ => rfl

set_option maxRecDepth 10000 in
theorem earMore_ev (b : Book) (hw : b.wf) (hs : b.ss.length ≤ 9223372036854775807) (x0 x1 x2 y0 y1 : Int) (h0 : 0 ≤ x0) (h0' : x0 ≤ 255) (h1 : 0 ≤ x1) (h1' : x1 ≤ 255) (h2 : 0 ≤ x2) (h2' : x2 ≤ 255) (h3 : 0 ≤ y0) (h3' : y0 ≤ 255) (h4 : 0 ≤ y1) (h4' : y1 ≤ 255) :
    Ev Try.prog 13 [.agg b.enc, .agg [U x0, U x1, U x2], .agg [U y0, U y1]] (B true) := by
  refine Ev.intro fn13 ?_
  have ev := valid_ev b hw
  have hln : (b.ss.map Spelling.enc).length = b.ss.length := List.length_map _
  have haln : (b.al.map Alph.enc).length = b.al.length := List.length_map _
  refine LWp.sx (gs := []) (hs := [.ice, .ice, .ice]) rfl ⟨⟨rfl, rfl⟩, ⟨rfl, rfl⟩, ⟨rfl, rfl⟩, trivial⟩ ?_
  refine LWp.seq (LWp.seq ?_)
  by_cases V : Valid b
  · rw [validB_iff.2 V] at ev
    have n1 := V.n1
    have n4 := V.n4
    have al1 := V.al1
    have al3 := V.al3
    refine LWp.x (gs := []) (hs := [.ret (B true)]) rfl ⟨ev, trivial⟩ ?_
    refine LWp.ite (b := false) rfl (fun h => by cases h) (fun _ => LWp.skip ?_)
    obtain ⟨a0, ha0, ea0⟩ := w_mod h0 (n := b.al.length) (by omega)
    obtain ⟨A, hA⟩ := ex_get ha0
    have okA := V.alph A (List.mem_of_getElem? hA)
    have l1 := okA.l1
    have l6 := okA.l6
    have hlln : (A.ls.map Letter.enc).length = A.ls.length := List.length_map _
    obtain ⟨j, hj, ej⟩ := w_mod h1 (n := A.ls.length) (by omega)
    obtain ⟨l, hl⟩ := ex_get hj
    obtain ⟨c0, c1, s0, s1, hq⟩ := okA.let_ l (List.mem_of_getElem? hl)
    obtain ⟨s, hs4, es⟩ := w_mod h2 (n := (b.n + 1).toNat) (by omega)
    have es : x2 % (b.n + 1) = s := by
      rw [← es, Int.toNat_of_nonneg (by omega)]
    obtain ⟨mc, m0, m1, mq, mle⟩ := moreL_ok n1 n4 s0 s1 hq (s := s) (by omega)
    have hs15 : l.s < 16 := by
      have h16 : (2 : Nat) ^ b.n.toNat ≤ 2 ^ 4 := Nat.pow_le_pow_right (by omega) (by omega)
      have := s1
      rw [← pow_cast] at this
      omega
    have hm15 : (moreL b.n l s).s < 16 := by
      have h16 : (2 : Nat) ^ b.n.toNat ≤ 2 ^ 4 := Nat.pow_le_pow_right (by omega) (by omega)
      have := m1
      rw [← pow_cast] at this
      omega
    have W := put_valid V hA hl mc m0 m1 mq
    have hv : (b.put a0 A j (moreL b.n l s)).wf := put_wf hw hA ⟨by omega, by omega, by omega, by omega⟩
    have hle := fun k h => put_hear V hA hl mc mle (k := k) (h := h)
    refine LWp.sx (gs := []) (hs := [.lin]) rfl ⟨rfl, ⟨rfl, rfl, rfl, by decide⟩, trivial⟩ ?_
    refine LWp.seq (LWp.ops ?_)
    refine WOps.shareB (t := 7) rfl (fun b7 => ?_)
    refine WOps.xn (gs := []) (hs := [.lin]) 4 rfl rfl ⟨rfl, ⟨by simp [chunk]; omega, by simp [chunk]; omega⟩, trivial⟩ ?_
    refine WOps.ent (Ent.el (l := [(3, .pi b.enc), (4, .pi [U x0, U x1, U x2]), (5, .pi [U y0, U y1]), (7, .po b7 0), (35, .lin 67 2 (b.al.map Alph.enc))]) ⟨rfl, rfl, rfl, rfl, rfl, trivial⟩) ?_
    refine WOps.share (t := 35) rfl (fun h => absurd (show b.al.map Alph.enc = [] from h) (by intro e; rw [List.map_eq_nil_iff.1 e] at al1; simp at al1)) (fun bA cap => ?_)
    refine WOps.hd (gs := []) (hs := [.stO 1]) rfl ⟨⟨rfl, rfl, rfl, rfl, Nat.le_succ 2⟩, trivial⟩ ?_
    refine LWp.sx (gs := []) (hs := []) rfl ⟨⟨by omega, by decide⟩, i64_wrap (n := x0) (by omega) (by omega), ⟨by omega, by rw [haln]; omega⟩, trivial⟩ ?_
    refine LWp.ent (Ent.el (l := [(3, .pi b.enc), (4, .pi [U x0, U x1, U x2]), (5, .pi [U y0, U y1]), (7, .po b7 0), (8, I a0)]) ⟨rfl, rfl, rfl, rfl, by show I _ = I _; rw [← ea0, haln], trivial⟩) ?_
    refine LWp.sx (gs := []) (hs := [.cells A.enc, .lin]) rfl ⟨⟨by omega, by simp [hA]⟩, rfl, ⟨rfl, rfl, rfl, by decide⟩, trivial⟩ ?_
    refine LWp.seq (LWp.ops ?_)
    refine WOps.shareB (t := 9) rfl (fun b9 => ?_)
    refine WOps.xn (gs := []) (hs := [.lin, .at 0]) 4 rfl rfl ⟨rfl, rfl, ⟨by simp [chunk]; omega, by simp [chunk]; omega⟩, trivial⟩ ?_
    refine WOps.ent (Ent.el (l := [(3, .pi b.enc), (4, .pi [U x0, U x1, U x2]), (5, .pi [U y0, U y1]), (7, .po b7 0), (8, I a0), (9, .po b9 0), (52, .lin 69 3 (A.ls.map Letter.enc))]) ⟨rfl, rfl, rfl, rfl, rfl, rfl, rfl, trivial⟩) ?_
    refine WOps.share (t := 52) rfl (fun h => absurd (show A.ls.map Letter.enc = [] from h) (by intro e; rw [List.map_eq_nil_iff.1 e] at l1; simp at l1)) (fun bL capL => ?_)
    refine WOps.hd (gs := []) (hs := [.stO 1]) rfl ⟨⟨rfl, rfl, rfl, rfl, Nat.le_refl 2⟩, trivial⟩ ?_
    refine LWp.sx (gs := []) (hs := [.at 1]) rfl ⟨⟨by omega, by decide⟩, i64_wrap (n := x1) (by omega) (by omega), rfl, ⟨by omega, by rw [hlln]; omega⟩, trivial⟩ ?_
    refine LWp.ent (Ent.el (l := [(3, .pi b.enc), (4, .pi [U x0, U x1, U x2]), (5, .pi [U y0, U y1]), (7, .po b7 0), (8, I a0), (9, .po b9 0), (10, I j)]) ⟨rfl, rfl, rfl, rfl, rfl, rfl, by show I _ = I _; rw [← ej, hlln], trivial⟩) ?_
    refine LWp.sx (gs := []) (hs := [.at 1, .elt 0 j 0 l.enc, .lin]) rfl ⟨rfl, ⟨by omega, by rw [hlln]; omega⟩, ⟨rfl, by simp, by simp [hl]⟩, rfl, ⟨rfl, rfl, rfl, by decide⟩, trivial⟩ ?_
    refine LWp.sx (gs := []) (hs := []) rfl ⟨⟨by omega, by decide⟩, i64_wrap (n := x2) (by omega) (by omega), ⟨by omega, by omega⟩, ⟨by omega, by omega⟩, trivial⟩ ?_
    refine LWp.shareB (t := 11) rfl (fun b11 => ?_)
    refine LWp.ent (Ent.el (l := [(3, .pi b.enc), (5, .pi [U y0, U y1]), (7, .po b7 0), (8, I a0), (9, .po b9 0), (10, I j), (11, .po b11 0), (12, I s)]) ⟨rfl, rfl, rfl, rfl, rfl, rfl, rfl, by show I _ = I _; rw [← es], trivial⟩) ?_
    refine LWp.cutX (fun _ : Unit => True) (fun _ => el [(3, .pi b.enc), (5, .pi [U y0, U y1]), (7, .po b7 0), (8, I a0), (9, .po b9 0), (10, I j), (11, .po b11 0)]) (fun _ => [(b11, .cells 69 (moreL b.n l s).enc), (bL, .arr 69 3 capL (A.ls.map Letter.enc)), (b9, .cells 67 [Str A.name, .so bL (A.ls.map Letter.enc).length capL]), (bA, .arr 67 2 cap (b.al.map Alph.enc)), (b7, .cells 25 [I b.n, .so bA (b.al.map Alph.enc).length cap, spells b.ss])]) (fun _ => []) ?_ (fun _ _ => ?_)
    · refine LWp.seq ?_
      refine LWp.x (gs := []) (hs := []) rfl trivial ?_
      refine LWp.ite rfl (fun h => ?_) (fun h => ?_)
      · have h : (s : Int) = b.n := by simpa using h
        have e : moreL b.n l s = ⟨l.c, l.s, true⟩ := by unfold moreL; rw [if_pos h]
        rw [e]
        refine LWp.hx (gs := []) (hs := [.stO 0]) rfl ⟨⟨rfl, rfl, rfl, rfl, Nat.le_refl 3⟩, trivial⟩ ?_
        exact ⟨(), trivial, Ent.el ⟨rfl, rfl, rfl, rfl, rfl, rfl, rfl, trivial⟩⟩
      · have h : ¬ (s : Int) = b.n := by simpa using h
        have hbit := bit_ev l.s s s0 (by omega) (by omega)
        refine LWp.sx (gs := []) (hs := [.at 0, .ret (B (bitI l.s s))]) rfl ⟨rfl, hbit, trivial⟩ ?_
        refine LWp.ite rfl (fun hb => ?_) (fun hb => ?_)
        · have hb : bitI l.s s = false := by simpa using hb
          have e : moreL b.n l s = ⟨l.c, l.s + 2 ^ s, l.q⟩ := by unfold moreL; rw [if_neg h, if_neg (by simp [hb])]
          rw [e] at hm15 m0 ⊢
          have hp : (0 : Int) < 2 ^ s := Int.pow_pos (by omega)
          simp only at hm15 m0
          refine LWp.d (gs := []) (hs := [.at 0, .ice, .cells [I (2 ^ s)]]) hmix rfl (by kernel_rfl) ⟨rfl, rfl, ⟨by omega, four_get (by omega)⟩, ⟨by omega, by omega⟩, trivial⟩ ?_
          refine WOps.hd (gs := []) (hs := [.stO 0]) rfl ⟨⟨rfl, rfl, rfl, rfl, Nat.le_succ 2⟩, trivial⟩ ?_
          exact ⟨(), trivial, Ent.el ⟨rfl, rfl, rfl, rfl, rfl, rfl, rfl, trivial⟩⟩
        · have hb : bitI l.s s = true := by simpa using hb
          have e : moreL b.n l s = l := by unfold moreL; rw [if_neg h, if_pos hb]
          rw [e]
          exact LWp.skip ⟨(), trivial, Ent.el ⟨rfl, rfl, rfl, rfl, rfl, rfl, rfl, trivial⟩⟩
    generalize hml : moreL b.n l s = l' at *
    refine LWp.ent (Ent.freezeBox (t := 11) (i := 0) rfl rfl) ?_
    refine LWp.shx (gs := []) (hs := [.at 1, .stE 0 j 0 l.enc]) rfl ⟨rfl, ⟨by omega, by rw [hlln]; omega⟩, ⟨rfl, by simp, by simp [hl], rfl, rfl, rfl, Nat.le_refl 3⟩, trivial⟩ ?_
    have hset : ((A.ls.map Letter.enc).set j l'.enc) = (A.ls.set j l').map Letter.enc := by rw [List.map_set]
    refine LWp.ent (Ent.trans (Ent.ofH (H' := [(bL, .arr 69 3 capL ((A.ls.set j l').map Letter.enc)), (b9, .cells 67 [Str A.name, .so bL (A.ls.map Letter.enc).length capL]), (bA, .arr 67 2 cap (b.al.map Alph.enc)), (b7, .cells 25 [I b.n, .so bA (b.al.map Alph.enc).length cap, spells b.ss])]) (by rw [← hset]; rfl))
      (Ent.trans (Ent.freezeArrAt (i := 0) (j := 0) [Str A.name, letters (A.ls.set j l')] rfl rfl ⟨.inl rfl, .inr ⟨by simp, rfl⟩, trivial⟩) (Ent.el (l := [(3, .pi b.enc), (5, .pi [U y0, U y1]), (7, .po b7 0), (8, I a0), (9, .po b9 0)]) ⟨rfl, rfl, rfl, rfl, rfl, trivial⟩))) ?_
    refine LWp.shx (gs := []) (hs := [.at 2, .at 0, .stE 1 a0 0 A.enc]) rfl ⟨rfl, rfl, ⟨by omega, by rw [haln]; omega⟩, ⟨rfl, by simp, by simp [hA], rfl, rfl, rfl, Nat.le_refl 2⟩, trivial⟩ ?_
    have hset2 : ((b.al.map Alph.enc).set a0 (Alph.enc ⟨A.name, A.ls.set j l'⟩)) = (b.put a0 A j l').al.map Alph.enc := by show _ = (b.al.set a0 _).map Alph.enc; rw [List.map_set]
    refine LWp.ent (Ent.trans (Ent.ofH (H' := [(b9, .cells 67 [Str A.name, letters (A.ls.set j l')]), (bA, .arr 67 2 cap ((b.put a0 A j l').al.map Alph.enc)), (b7, .cells 25 [I b.n, .so bA (b.al.map Alph.enc).length cap, spells b.ss])]) (by rw [← hset2]; rfl))
      (Ent.trans (Ent.freezeArrAt (i := 1) (j := 1) [I b.n, alphs (b.put a0 A j l').al, spells b.ss] rfl rfl ⟨.inl rfl, .inr ⟨by simp [Book.put], rfl⟩, .inl rfl, trivial⟩)
      (Ent.trans (Ent.freezeBox (t := 7) (i := 1) rfl rfl) (Ent.trans (Ent.dropH 0) (Ent.el (l := [(3, .pi b.enc), (5, .pi [U y0, U y1]), (7, .pi (b.put a0 A j l').enc)]) ⟨rfl, rfl, rfl, trivial⟩))))) ?_
    have hss : (b.put a0 A j l').ss.length = b.ss.length := rfl
    generalize b.put a0 A j l' = c at *
    obtain ⟨d, e, o1, o2, o3⟩ := more_odd V W hw hv hle hss
    have eo1 := eodd_ev b hw hs
    have eo2 := eodd_ev c hv (by omega)
    rw [o1] at eo1
    rw [o2] at eo2
    refine LWp.sx (gs := []) (hs := [.ret (.tup [ints (natI d), I 0])]) rfl ⟨eo1, trivial⟩ ?_
    refine LWp.sx (gs := []) (hs := [.ret (.tup [ints (natI e), I 0])]) rfl ⟨eo2, trivial⟩ ?_
    refine LWp.seq (LWp.seq ?_)
    refine LWp.x (gs := [(113, false), (117, false)]) (hs := []) rfl (by (repeat' (with_reducible apply And.intro)); (all_goals try first | (with_reducible exact trivial) | (with_reducible rfl) | (with_reducible assumption) | ((with_reducible apply isB); first | exact rfl | exact beq_self_eq_true _))) ?_
    refine LWp.ite rfl (fun h => by simp [natI] at h; omega) (fun _ => LWp.skip ?_)
    refine LWp.seq (LWp.seq ?_)
    refine LWp.x (gs := []) (hs := []) rfl trivial ?_
    refine LWp.ite rfl (fun h => ?_) (fun h => LWp.skip ?_)
    · refine LWp.sx (gs := []) (hs := [.ret (B true)]) rfl ⟨awake_ev, trivial⟩ ?_
      refine LWp.ret (retT (.inr rfl) (.one (.tmp ?_ rfl)))
      rfl
    · have hpos : 0 < b.ss.length := by
        simp only [beq_eq_false_iff_ne, ne_eq, List.length_map] at h
        omega
      obtain ⟨i, hi, ei⟩ := w_mod h3 hpos
      obtain ⟨k, hk, ek⟩ := w_mod h4 hpos
      refine LWp.sd (gs := []) (hs := []) hmix rfl (by kernel_rfl) ⟨⟨by omega, by decide⟩, i64_wrap (n := y0) (by omega) (by omega), ⟨by omega, by rw [hln]; omega⟩, ⟨by omega, by decide⟩, i64_wrap (n := y1) (by omega) (by omega), ⟨by omega, by rw [hln]; omega⟩, trivial⟩ ?_
      refine LWp.ent (Ent.el (l := [(3, .pi b.enc), (7, .pi c.enc), (17, I i), (18, I k)]) ⟨rfl, rfl, by show I _ = I _; rw [← ei, hln], by show I _ = I _; rw [← ek, hln], trivial⟩) ?_
      obtain ⟨m, o, em, eo, hmo⟩ := more_count V W hw hv hle hi (by omega)
      obtain ⟨p, q, x, ep, eq, hpq⟩ := more_alike V W hw hv hle hi hk (by omega) (by omega)
      have c1 := count_ev b hw hs i
      have c2 := count_ev c hv (by omega) i
      have c3 := ealike_ev b hw hs i k
      have c4 := ealike_ev c hv (by omega) i k
      rw [em] at c1
      rw [eo] at c2
      rw [ep] at c3
      rw [eq] at c4
      refine LWp.sx (gs := []) (hs := [.ret (.tup [I m, I 0])]) rfl ⟨c1, trivial⟩ ?_
      refine LWp.sx (gs := []) (hs := [.ret (.tup [I o, I 0])]) rfl ⟨c2, trivial⟩ ?_
      refine LWp.sx (gs := []) (hs := [.ret (.tup [I p, I x])]) rfl ⟨c3, trivial⟩ ?_
      refine LWp.sx (gs := []) (hs := [.ret (.tup [I q, I x])]) rfl ⟨c4, trivial⟩ ?_
      have g1 : decide (m ≤ o) = true := decide_eq_true hmo
      have g2 : (x == x) = true := by simp
      by_cases hx : x = 0
      · subst hx
        by_cases hp2 : p = 2
        · subst hp2
          refine LWp.sx (gs := [(171, true), (175, true), (180, true), (185, true), (188, false), (192, true), (197, true)]) (hs := [.ret (B true)]) rfl (by (repeat' (with_reducible apply And.intro)); (all_goals try first | (with_reducible exact trivial) | (with_reducible rfl) | (with_reducible assumption) | ((with_reducible apply isB); first | exact rfl | exact beq_self_eq_true _)); exact awake_ev) ?_
          refine LWp.ret (retT (.inr rfl) (.one (.tmp ?_ rfl)))
          rfl
        · have g3 : (p == 2) = false := by simpa using hp2
          have hq2 : q ≠ 2 := (hpq rfl).resolve_left hp2
          have g4 : (q != 2) = true := by simpa using hq2
          refine LWp.sx (gs := [(171, true), (175, true), (180, true), (185, true), (188, false), (192, false), (197, true)]) (hs := [.ret (B true)]) rfl (by (repeat' (with_reducible apply And.intro)); (all_goals try first | (with_reducible exact trivial) | (with_reducible rfl) | (with_reducible assumption) | ((with_reducible apply isB); first | exact rfl | exact beq_self_eq_true _)); exact awake_ev) ?_
          refine LWp.ret (retT (.inr rfl) (.one (.tmp ?_ rfl)))
          rfl
      · have g3 : (x != 0) = true := by simpa using hx
        refine LWp.sx (gs := [(171, true), (175, true), (180, true), (185, true), (188, true), (192, true), (197, true)]) (hs := [.ret (B true)]) rfl (by (repeat' (with_reducible apply And.intro)); (all_goals try first | (with_reducible exact trivial) | (with_reducible rfl) | (with_reducible assumption) | ((with_reducible apply isB); first | exact rfl | exact beq_self_eq_true _)); exact awake_ev) ?_
        refine LWp.ret (retT (.inr rfl) (.one (.tmp ?_ rfl)))
        rfl
  · have hv : validB b = false := by
      cases h : validB b with
      | false => rfl
      | true => exact absurd (validB_iff.1 h) V
    rw [hv] at ev
    refine LWp.x (gs := []) (hs := [.ret (B false)]) rfl ⟨ev, trivial⟩ ?_
    refine LWp.ite (b := true) rfl (fun _ => ?_) (fun h => by cases h)
    refine LWp.sx (gs := []) (hs := [.ret (B true)]) rfl ⟨awake_ev, trivial⟩ ?_
    refine LWp.ret (retT (.inr rfl) (.one (.tmp ?_ rfl)))
    rfl
end Go.Px

