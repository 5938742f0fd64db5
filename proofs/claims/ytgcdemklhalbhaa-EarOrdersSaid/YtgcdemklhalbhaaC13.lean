/- Part 13 of the proofs of the outright statements of this seat (functions lowered, plain laws, contracts). No conditions. -/
import Derived.Test.YtgcdemklhalbhaaC12
namespace Go.Px
open Go.Proofs

abbrev linL (ls : List Letter) : AV := .lin 69 3 (ls.map Letter.enc)
abbrev linA (l : List Alph) : AV := .lin 67 2 (l.map Alph.enc)
theorem linL_snoc (l : List Letter) (x : Letter) : AV.lin 69 3 (l.map Letter.enc ++ [x.enc]) = linL (l ++ [x]) := by rw [linL, List.map_append]; rfl
theorem alphs_snoc (l : List Alph) (x : Alph) : alphs (l ++ [x]) = AV.sl 2 (l.map Alph.enc ++ [x.enc]) := by rw [alphs, List.map_append]; rfl
theorem linA_snoc (l : List Alph) (x : Alph) : AV.lin 67 2 (l.map Alph.enc ++ [x.enc]) = linA (l ++ [x]) := by rw [linA, List.map_append]; rfl

set_option maxRecDepth 10000 in
theorem earOrders_ev (b : Book) (hw : b.wf) (hs : b.ss.length ≤ 9223372036854775807) (x0 x1 : Int) (hd : List Int) : Ev Try.prog 16 [.agg b.enc, .agg [I x0, I x1], ints hd] (B true) := by
  refine Ev.intro fn16 ?_
  have ev := valid_ev b hw
  have haln : (b.al.map Alph.enc).length = b.al.length := List.length_map _
  refine LWp.sx (gs := []) (hs := [.ice, .ice]) rfl ⟨⟨rfl, rfl⟩, ⟨rfl, rfl⟩, trivial⟩ ?_
  refine LWp.seq (LWp.seq ?_)
  by_cases V : Valid b
  · rw [validB_iff.2 V] at ev
    have n1 := V.n1
    have n4 := V.n4
    have al1 := V.al1
    have al3 := V.al3
    refine LWp.x (gs := []) (hs := [.ret (B true)]) rfl ⟨ev, trivial⟩ ?_
    refine LWp.ite (b := false) rfl (fun h => by cases h) (fun _ => LWp.skip ?_)
    refine LWp.sd (gs := []) (hs := [.lin, .lin]) hmix rfl (by kernel_rfl) ⟨rfl, rfl, ⟨rfl, rfl, rfl, Nat.le_refl 3⟩, ⟨rfl, rfl, rfl, Nat.le_refl 3⟩, trivial⟩ ?_
    refine LWp.shareB (t := 7) rfl (fun b7 => ?_)
    refine LWp.shareB (t := 8) rfl (fun b8 => ?_)
    refine LWp.shx (gs := []) (hs := [.stO 1, .stO 0]) rfl ⟨⟨rfl, rfl, rfl, rfl, Nat.le_succ 2⟩, ⟨rfl, rfl, rfl, rfl, Nat.le_succ 2⟩, trivial⟩ ?_
    refine LWp.ent (Ent.trans (Ent.cellsSub (j := 0) [I b.n, alphs [], spells b.ss] rfl ⟨SubA.refl _, SubA.nil 2, SubA.refl _, trivial⟩) (Ent.trans (Ent.cellsSub (j := 1) [I b.n, alphs [], spells b.ss] rfl ⟨SubA.refl _, SubA.nil 2, SubA.refl _, trivial⟩)
      (Ent.el (l := [(2, ints hd), (3, .pi b.enc), (4, .pi [I x0, I x1]), (7, .po b7 0), (8, .po b8 0)]) ⟨rfl, rfl, rfl, rfl, rfl, trivial⟩))) ?_
    refine LWp.seq (LWp.seq ?_)
    refine LWp.x (gs := []) (hs := []) rfl trivial ?_
    refine LWp.blockT (fun _ : Unit => True) (fun _ => el [(2, ints hd), (3, .pi b.enc), (4, .pi [I x0, I x1]), (7, .pi b.back.enc), (8, .pi b.high.enc)]) (fun _ => []) (fun _ => []) ?_ ?_
    · refine LWp.loopN (fun i : Nat => i ≤ b.al.length) (fun i => el [(2, ints hd), (3, .pi b.enc), (4, .pi [I x0, I x1]), (7, .po b7 0), (8, .po b8 0), (9, I i)])
        (fun i => [(b8, .cells 25 [I b.n, alphs ((b.al.take i).map (highA b.n.toNat)), spells b.ss]), (b7, .cells 25 [I b.n, alphs ((b.al.take i).map backA), spells b.ss])]) (fun _ => []) (fun i => b.al.length - i) 0 (by omega)
        (Ent.el ⟨rfl, rfl, rfl, rfl, rfl, rfl, trivial⟩) ?_
      intro i hi
      refine LWp.seq (LWp.seq ?_)
      refine LWp.x (gs := []) (hs := []) rfl trivial ?_
      refine LWp.ite rfl (fun hc => ?_) (fun hc => ?_)
      · simp only [List.length_map, decide_eq_true_eq, Int.ofNat_lt] at hc
        obtain ⟨A, hA⟩ := ex_get hc
        have ok := V.alph A (List.mem_of_getElem? hA)
        have l6 := ok.l6
        have hlln : (A.ls.map Letter.enc).length = A.ls.length := List.length_map _
        have htk : b.al.take (i + 1) = b.al.take i ++ [A] := by rw [List.take_add_one, hA]; rfl
        have htl : (b.al.take i).length ≤ 3 := by rw [List.length_take]; omega
        refine LWp.skip ?_
        refine LWp.blockX (fun _ : Unit => True) (fun _ => el [(2, ints hd), (3, .pi b.enc), (4, .pi [I x0, I x1]), (7, .po b7 0), (8, .po b8 0), (9, I i)])
          (fun _ => [(b8, .cells 25 [I b.n, alphs ((b.al.take (i + 1)).map (highA b.n.toNat)), spells b.ss]), (b7, .cells 25 [I b.n, alphs ((b.al.take (i + 1)).map backA), spells b.ss])]) (fun _ => []) ?_ ?_
        · rw [htk]
          generalize b.al.take i = pre at htl
          refine LWp.sx (gs := []) (hs := [.cells A.enc]) rfl ⟨⟨by omega, by simp [hA]⟩, trivial⟩ ?_
          refine LWp.sx (gs := []) (hs := []) rfl trivial ?_
          refine LWp.seq (LWp.seq ?_)
          refine LWp.x (gs := []) (hs := []) rfl trivial ?_
          refine LWp.blockT (fun _ : Unit => True) (fun _ => el [(2, ints hd), (3, .pi b.enc), (4, .pi [I x0, I x1]), (7, .po b7 0), (8, .po b8 0), (9, I i), (11, letters A.ls.reverse), (12, letters (A.ls.map (highL b.n.toNat)))])
            (fun _ => [(b8, .cells 25 [I b.n, alphs (pre.map (highA b.n.toNat)), spells b.ss]), (b7, .cells 25 [I b.n, alphs (pre.map backA), spells b.ss])]) (fun _ => []) ?_ ?_
          · refine LWp.loopN (fun k : Nat => k ≤ A.ls.length) (fun k => el [(2, ints hd), (3, .pi b.enc), (4, .pi [I x0, I x1]), (7, .po b7 0), (8, .po b8 0), (9, I i), (10, letters A.ls), (11, linL (A.ls.reverse.take k)), (12, linL ((A.ls.take k).map (highL b.n.toNat))), (13, I k)])
              (fun _ => [(b8, .cells 25 [I b.n, alphs (pre.map (highA b.n.toNat)), spells b.ss]), (b7, .cells 25 [I b.n, alphs (pre.map backA), spells b.ss])]) (fun _ => []) (fun k => A.ls.length - k) 0 (by omega)
              (Ent.trans (Ent.nilLin (t := 11) 69 3 rfl) (Ent.trans (Ent.nilLin (t := 12) 69 3 rfl) (Ent.el ⟨rfl, rfl, rfl, rfl, rfl, rfl, rfl, rfl, rfl, rfl, trivial⟩))) ?_
            intro k hk
            refine LWp.seq (LWp.seq ?_)
            refine LWp.x (gs := []) (hs := []) rfl trivial ?_
            refine LWp.ite rfl (fun hkc => ?_) (fun hkc => ?_)
            · simp only [List.length_map, decide_eq_true_eq, Int.ofNat_lt] at hkc
              obtain ⟨l, hl⟩ := ex_get hkc
              obtain ⟨rl, hrl⟩ := ex_get (show k < A.ls.reverse.length by rw [List.length_reverse]; exact hkc)
              have hrl2 : A.ls[A.ls.length - 1 - k]? = some rl := by
                rw [List.getElem?_reverse (by omega)] at hrl; exact hrl
              obtain ⟨c0, c1, s0, s1, hq⟩ := ok.let_ l (List.mem_of_getElem? hl)
              obtain ⟨_, _, _, f4⟩ := flip_ok (n := b.n.toNat) (by omega) (letter_nat n1 s0 s1)
              have s15 : l.s < 16 := by
                have h16 : (2 : Nat) ^ b.n.toNat ≤ 2 ^ 4 := Nat.pow_le_pow_right (by omega) (by omega)
                have := letter_nat n1 s0 s1
                omega
              have ht1 : A.ls.reverse.take (k + 1) = A.ls.reverse.take k ++ [rl] := by rw [List.take_add_one, hrl]; rfl
              have ht2 : A.ls.take (k + 1) = A.ls.take k ++ [l] := by rw [List.take_add_one, hl]; rfl
              have hl1 : (A.ls.reverse.take k).length ≤ 6 := by rw [List.length_take, List.length_reverse]; omega
              have hl2 : ((A.ls.take k).map (highL b.n.toNat)).length ≤ 6 := by rw [List.length_map, List.length_take]; omega
              have eidx : (((A.ls.map Letter.enc).length : Int) - 1 - k).toNat = A.ls.length - 1 - k := by rw [hlln]; omega
              refine LWp.skip ?_
              refine LWp.blockX (fun _ : Unit => True) (fun _ => el [(2, ints hd), (3, .pi b.enc), (4, .pi [I x0, I x1]), (7, .po b7 0), (8, .po b8 0), (9, I i), (10, letters A.ls), (11, linL (A.ls.reverse.take (k + 1))), (12, linL ((A.ls.take (k + 1)).map (highL b.n.toNat))), (13, I k)])
                (fun _ => [(b8, .cells 25 [I b.n, alphs (pre.map (highA b.n.toNat)), spells b.ss]), (b7, .cells 25 [I b.n, alphs (pre.map backA), spells b.ss])]) (fun _ => []) ?_ ?_
              · rw [ht1, ht2, List.map_append, ← linL_snoc]
                generalize A.ls.reverse.take k = r1 at hl1
                generalize (A.ls.take k).map (highL b.n.toNat) = r2 at hl2
                refine LWp.sx (gs := []) (hs := [.cells rl.enc, .ice]) rfl ⟨⟨by rw [hlln]; omega, by rw [hlln]; omega⟩, ⟨by rw [hlln]; omega, by rw [hlln]; omega⟩, ⟨by rw [hlln]; omega, by rw [eidx, List.getElem?_map, hrl2]; rfl⟩, rfl, ⟨by simp [chunk]; omega, by simp [chunk]; omega⟩, trivial⟩ ?_
                refine LWp.ent (Ent.el (l := [(2, ints hd), (3, .pi b.enc), (4, .pi [I x0, I x1]), (7, .po b7 0), (8, .po b8 0), (9, I i), (10, letters A.ls), (11, .lin 69 3 (r1.map Letter.enc ++ [rl.enc])), (12, linL r2), (13, I k)]) ⟨rfl, rfl, rfl, rfl, rfl, rfl, rfl, rfl, rfl, rfl, trivial⟩) ?_
                refine LWp.sx (gs := []) (hs := [.cells l.enc, .lin]) rfl ⟨⟨by omega, by simp [hl]⟩, rfl, ⟨rfl, rfl, rfl, Nat.le_refl 3⟩, trivial⟩ ?_
                refine LWp.shareB (t := 14) rfl (fun b14 => ?_)
                refine LWp.shx (gs := []) (hs := [.stO 0]) rfl ⟨⟨rfl, rfl, rfl, rfl, Nat.le_succ 2⟩, trivial⟩ ?_
                refine LWp.seq (LWp.seq ?_)
                refine LWp.x (gs := []) (hs := []) rfl trivial ?_
                refine LWp.blockT (fun _ : Unit => True) (fun _ => el [(2, ints hd), (3, .pi b.enc), (4, .pi [I x0, I x1]), (7, .po b7 0), (8, .po b8 0), (9, I i), (10, letters A.ls), (11, .lin 69 3 (r1.map Letter.enc ++ [rl.enc])), (12, linL r2), (13, I k), (14, .pi (highL b.n.toNat l).enc)])
                  (fun _ => [(b8, .cells 25 [I b.n, alphs (pre.map (highA b.n.toNat)), spells b.ss]), (b7, .cells 25 [I b.n, alphs (pre.map backA), spells b.ss])]) (fun _ => []) ?_ ?_
                · refine LWp.loopN (fun m : Nat => m ≤ b.n.toNat) (fun m => el [(2, ints hd), (3, .pi b.enc), (4, .pi [I x0, I x1]), (7, .po b7 0), (8, .po b8 0), (9, I i), (10, letters A.ls), (11, .lin 69 3 (r1.map Letter.enc ++ [rl.enc])), (12, linL r2), (13, I k), (14, .po b14 0), (15, I m)])
                    (fun m => [(b14, .cells 69 [U l.c, I (flipN b.n.toNat l.s.toNat m : Nat), B l.q]), (b8, .cells 25 [I b.n, alphs (pre.map (highA b.n.toNat)), spells b.ss]), (b7, .cells 25 [I b.n, alphs (pre.map backA), spells b.ss])]) (fun _ => []) (fun m => b.n.toNat - m) 0 (by omega)
                    (Ent.el ⟨rfl, rfl, rfl, rfl, rfl, rfl, rfl, rfl, rfl, rfl, rfl, rfl, trivial⟩) ?_
                  intro m hm
                  refine LWp.seq (LWp.seq ?_)
                  refine LWp.x (gs := []) (hs := []) rfl trivial ?_
                  refine LWp.ite rfl (fun hmc => ?_) (fun hmc => ?_)
                  · simp only [decide_eq_true_eq] at hmc
                    have hbit := bit_ev l.s m s0 (by omega) (by omega)
                    have htb : bitI l.s m = l.s.toNat.testBit m := by rw [bit_gives _ _ s0, gives_bit _ _ s0]
                    have f5 := f4 m (by omega)
                    have f6 := f4 (m + 1) (by omega)
                    have hfs : flipN b.n.toNat l.s.toNat (m + 1) = flipN b.n.toNat l.s.toNat m + if l.s.toNat.testBit m = true then 2 ^ (b.n.toNat - 1 - m) else 0 := rfl
                    have eix : (b.n - 1 - (m : Int)).toNat = b.n.toNat - 1 - m := by omega
                    refine LWp.skip ?_
                    refine LWp.blockX (fun _ : Unit => True) (fun _ => el [(2, ints hd), (3, .pi b.enc), (4, .pi [I x0, I x1]), (7, .po b7 0), (8, .po b8 0), (9, I i), (10, letters A.ls), (11, .lin 69 3 (r1.map Letter.enc ++ [rl.enc])), (12, linL r2), (13, I k), (14, .po b14 0), (15, I m)])
                      (fun _ => [(b14, .cells 69 [U l.c, I (flipN b.n.toNat l.s.toNat (m + 1) : Nat), B l.q]), (b8, .cells 25 [I b.n, alphs (pre.map (highA b.n.toNat)), spells b.ss]), (b7, .cells 25 [I b.n, alphs (pre.map backA), spells b.ss])]) (fun _ => []) ?_ ?_
                    · refine LWp.sx (gs := []) (hs := [.cells l.enc, .ret (B (bitI l.s m))]) rfl ⟨⟨by omega, by simp [hl]⟩, hbit, trivial⟩ ?_
                      refine LWp.ite rfl (fun hb => ?_) (fun hb => ?_)
                      · rw [htb] at hb
                        rw [if_pos hb] at hfs
                        have hcast : ((flipN b.n.toNat l.s.toNat (m + 1) : Nat) : Int) = (flipN b.n.toNat l.s.toNat m : Nat) + 2 ^ (b.n.toNat - 1 - m) := by rw [hfs, Int.natCast_add, pow_cast]
                        rw [hcast]
                        rw [hfs] at f6
                        generalize flipN b.n.toNat l.s.toNat m = fm at f5 f6
                        have hp : (0 : Int) < 2 ^ (b.n.toNat - 1 - m) := Int.pow_pos (by omega)
                        have hp16 : (2 : Int) ^ (b.n.toNat - 1 - m) ≤ 16 := by rw [← pow_cast]; omega
                        refine LWp.d (gs := []) (hs := [.at 0, .ice, .cells [I (2 ^ (b.n.toNat - 1 - m))]]) hmix rfl (by kernel_rfl) ⟨rfl, rfl, ⟨by omega, by omega⟩, ⟨by omega, by omega⟩, ⟨by omega, by rw [eix]; exact four_get (by omega)⟩, ⟨by omega, by omega⟩, trivial⟩ ?_
                        refine WOps.hd (gs := []) (hs := [.stO 0]) rfl ⟨⟨rfl, rfl, rfl, rfl, Nat.le_succ 2⟩, trivial⟩ ?_
                        exact ⟨(), trivial, Ent.el ⟨rfl, rfl, rfl, rfl, rfl, rfl, rfl, rfl, rfl, rfl, rfl, rfl, trivial⟩⟩
                      · rw [htb] at hb
                        rw [if_neg (by simp [hb]), Nat.add_zero] at hfs
                        rw [hfs]
                        exact LWp.skip ⟨(), trivial, Ent.el ⟨rfl, rfl, rfl, rfl, rfl, rfl, rfl, rfl, rfl, rfl, rfl, rfl, trivial⟩⟩
                    · intro _ _
                      refine LWp.x (gs := []) (hs := []) rfl ⟨by omega, trivial⟩ ?_
                      exact ⟨m + 1, by omega, by omega, Ent.el ⟨rfl, rfl, rfl, rfl, rfl, rfl, rfl, rfl, rfl, rfl, rfl, rfl, trivial⟩⟩
                  · simp only [decide_eq_false_iff_not] at hmc
                    have e : m = b.n.toNat := by omega
                    subst e
                    exact LWp.exit ⟨(), trivial, Ent.trans (Ent.freezeBox (t := 14) (i := 0) rfl rfl) (Ent.el ⟨rfl, rfl, rfl, rfl, rfl, rfl, rfl, rfl, rfl, rfl, rfl, trivial⟩)⟩
                · intro _ _
                  refine LWp.x (gs := []) (hs := [.ice]) rfl ⟨rfl, ⟨by simp [chunk]; omega, by simp [chunk]; omega⟩, trivial⟩ ?_
                  refine ⟨(), trivial, Ent.el ⟨rfl, rfl, rfl, rfl, rfl, rfl, rfl, rfl, ?_, rfl, trivial⟩⟩
                  exact linL_snoc _ _
              · intro _ _
                refine LWp.x (gs := []) (hs := []) rfl ⟨by omega, trivial⟩ ?_
                exact ⟨k + 1, by omega, by omega, Ent.el ⟨rfl, rfl, rfl, rfl, rfl, rfl, rfl, rfl, rfl, rfl, trivial⟩⟩
            · simp only [List.length_map, decide_eq_false_iff_not, Int.ofNat_lt] at hkc
              refine LWp.exit ⟨(), trivial, Ent.trans (Ent.freezeLin (t := 11) rfl) (Ent.trans (Ent.freezeLin (t := 12) rfl) (Ent.el ⟨rfl, rfl, rfl, rfl, rfl, rfl, ?_, ?_, trivial⟩))⟩
              · have e : A.ls.reverse.take k = A.ls.reverse := List.take_of_length_le (by rw [List.length_reverse]; omega)
                rw [e]; rfl
              · have e : A.ls.take k = A.ls := List.take_of_length_le (by omega)
                rw [e]; rfl
          · intro _ _
            have hp1 : (pre.map backA).length ≤ 3 := by rw [List.length_map]; exact htl
            have hp2 : (pre.map (highA b.n.toNat)).length ≤ 3 := by rw [List.length_map]; exact htl
            have e1 : (pre ++ [A]).map backA = pre.map backA ++ [backA A] := by simp
            have e2 : (pre ++ [A]).map (highA b.n.toNat) = pre.map (highA b.n.toNat) ++ [highA b.n.toNat A] := by simp
            rw [e1, e2]
            generalize pre.map backA = q1 at hp1
            generalize pre.map (highA b.n.toNat) = q2 at hp2
            refine LWp.seq ?_
            refine LWp.d (gs := []) (hs := [.lin, .at 1, .cells A.enc, .ice]) hmix rfl (by kernel_rfl) ⟨rfl, rfl, ⟨by simp [chunk]; omega, by simp [chunk]; omega⟩, ⟨by omega, by simp [hA]⟩, rfl, ⟨by simp [chunk]; omega, by simp [chunk]; omega⟩, trivial⟩ ?_
            refine WOps.ent (Ent.freezeLin (t := 119) rfl) ?_
            refine WOps.hd (gs := []) (hs := [.stO 1]) rfl ⟨⟨rfl, rfl, rfl, rfl, Nat.le_succ 2⟩, trivial⟩ ?_
            refine LWp.ent (Ent.trans (Ent.ofH (H' := [(b8, .cells 25 [I b.n, alphs q2, spells b.ss]), (b7, .cells 25 [I b.n, alphs (q1 ++ [backA A]), spells b.ss])]) (by rw [alphs_snoc]; rfl))
              (Ent.el (l := [(2, ints hd), (3, .pi b.enc), (4, .pi [I x0, I x1]), (7, .po b7 0), (8, .po b8 0), (9, I i), (12, letters (A.ls.map (highL b.n.toNat)))]) ⟨rfl, rfl, rfl, rfl, rfl, rfl, rfl, trivial⟩)) ?_
            refine LWp.d (gs := []) (hs := [.lin, .at 0, .cells A.enc, .ice]) hmix rfl (by kernel_rfl) ⟨rfl, rfl, ⟨by simp [chunk]; omega, by simp [chunk]; omega⟩, ⟨by omega, by simp [hA]⟩, rfl, ⟨by simp [chunk]; omega, by simp [chunk]; omega⟩, trivial⟩ ?_
            refine WOps.ent (Ent.freezeLin (t := 134) rfl) ?_
            refine WOps.hd (gs := []) (hs := [.stO 0]) rfl ⟨⟨rfl, rfl, rfl, rfl, Nat.le_succ 2⟩, trivial⟩ ?_
            refine ⟨(), trivial, Ent.trans (Ent.ofH (H' := [(b8, .cells 25 [I b.n, alphs (q2 ++ [highA b.n.toNat A]), spells b.ss]), (b7, .cells 25 [I b.n, alphs (q1 ++ [backA A]), spells b.ss])]) (by rw [alphs_snoc q2]; rfl))
              (Ent.el ⟨rfl, rfl, rfl, rfl, rfl, rfl, trivial⟩)⟩
        · intro _ _
          refine LWp.x (gs := []) (hs := []) rfl ⟨by omega, trivial⟩ ?_
          exact ⟨i + 1, by omega, by omega, Ent.el ⟨rfl, rfl, rfl, rfl, rfl, rfl, trivial⟩⟩
      · simp only [List.length_map, decide_eq_false_iff_not, Int.ofNat_lt] at hc
        have e : b.al.take i = b.al := List.take_of_length_le (by omega)
        rw [e]
        exact LWp.exit ⟨(), trivial, Ent.trans (Ent.freezeBox (t := 8) (i := 0) rfl rfl) (Ent.trans (Ent.freezeBox (t := 7) (i := 0) rfl rfl) (Ent.el ⟨rfl, rfl, rfl, rfl, rfl, trivial⟩))⟩
    intro _ _
    have hbw := back_wf hw
    have hhw := high_wf V hw
    have k1 := efirst_ev b hw hs x0
    have k2 := efirst_ev b.back hbw hs x0
    have k3 := ereads_ev b hw hs x1 hd
    have k4 := ereads_ev b.back hbw hs x1 hd
    have k5 := count_ev b hw hs x0
    have k6 := count_ev b.high hhw hs x0
    have k7 := ealike_ev b hw hs x0 x1
    have k8 := ealike_ev b.high hhw hs x0 x1
    have k9 := eodd_ev b hw hs
    have k10 := eodd_ev b.high hhw hs
    have k11 := eodd_ev b.back hbw hs
    rw [back_first V] at k2
    rw [back_reads V] at k4
    rw [high_count V hw] at k6
    rw [high_alike V hw] at k8
    rw [high_odd V hw] at k10
    rw [back_odd V] at k11
    generalize firstR b x0 = r1 at k1 k2
    generalize readsR b x1 hd = r2 at k3 k4
    generalize countR b x0 = r3 at k5 k6
    generalize alikeR b x0 x1 = r4 at k7 k8
    generalize oddR b = r5 at k9 k10 k11
    obtain ⟨p1, e1⟩ := r1
    obtain ⟨p2, e2⟩ := r2
    obtain ⟨p3, e3⟩ := r3
    obtain ⟨p4, e4⟩ := r4
    obtain ⟨p5, e5⟩ := r5
    generalize b.back = bb at *
    generalize b.high = bh at *
    refine LWp.sx (gs := []) (hs := [.ret (.tup [ints p1, I e1])]) rfl ⟨⟨by omega, by decide⟩, k1, trivial⟩ ?_
    refine LWp.sx (gs := []) (hs := [.ret (.tup [ints p1, I e1])]) rfl ⟨⟨by omega, by decide⟩, k2, trivial⟩ ?_
    refine LWp.sx (gs := []) (hs := [.ret (.tup [B p2, I e2])]) rfl ⟨⟨by omega, by decide⟩, k3, trivial⟩ ?_
    refine LWp.sx (gs := []) (hs := [.ret (.tup [B p2, I e2])]) rfl ⟨⟨by omega, by decide⟩, k4, trivial⟩ ?_
    refine LWp.seq (LWp.seq ?_)
    have g1 : (e1 != e1) = false := by simp
    have g2 : (p2 != p2) = false := by simp
    have g3 : (e2 != e2) = false := by simp
    refine LWp.x (gs := [(170, false), (175, false), (180, false)]) (hs := [.ret (B true)]) rfl (by (repeat' (with_reducible apply And.intro)); (all_goals try first | (with_reducible exact trivial) | (with_reducible rfl) | (with_reducible assumption) | ((with_reducible apply isB); first | exact rfl | exact beq_self_eq_true _)); exact ints_refl _; exact ub) ?_
    refine LWp.ite rfl (fun h => by simp at h) (fun _ => LWp.skip ?_)
    refine LWp.sx (gs := []) (hs := [.ret (.tup [I p3, I e3])]) rfl ⟨⟨by omega, by decide⟩, k5, trivial⟩ ?_
    refine LWp.sx (gs := []) (hs := [.ret (.tup [I p3, I e3])]) rfl ⟨⟨by omega, by decide⟩, k6, trivial⟩ ?_
    refine LWp.sx (gs := []) (hs := [.ret (.tup [I p4, I e4])]) rfl ⟨⟨by omega, by decide⟩, ⟨by omega, by decide⟩, k7, trivial⟩ ?_
    refine LWp.sx (gs := []) (hs := [.ret (.tup [I p4, I e4])]) rfl ⟨⟨by omega, by decide⟩, ⟨by omega, by decide⟩, k8, trivial⟩ ?_
    refine LWp.sx (gs := []) (hs := [.ret (.tup [ints p5, I e5])]) rfl ⟨k9, trivial⟩ ?_
    refine LWp.sx (gs := []) (hs := [.ret (.tup [ints p5, I e5])]) rfl ⟨k10, trivial⟩ ?_
    refine LWp.sx (gs := []) (hs := [.ret (.tup [ints p5, I e5])]) rfl ⟨k11, trivial⟩ ?_
    refine LWp.ent (Ent.el (l := [(24, I p3), (25, I p3), (17, I e3), (19, I e3), (26, I p4), (27, I p4), (21, I e4), (23, I e4), (28, ints p5), (30, ints p5), (32, ints p5), (29, I e5), (31, I e5), (33, I e5)]) ⟨rfl, rfl, rfl, rfl, rfl, rfl, rfl, rfl, rfl, rfl, rfl, rfl, rfl, rfl, trivial⟩) ?_
    refine LWp.sx (gs := [(235, true), (240, true), (245, true), (250, true), (255, true), (260, true), (265, true), (270, true)]) (hs := [.ret (B true), .ret (B true), .ret (B true)]) rfl (by (repeat' (with_reducible apply And.intro)); (all_goals try first | (with_reducible exact trivial) | (with_reducible rfl) | (with_reducible assumption) | ((with_reducible apply isB); first | exact rfl | exact beq_self_eq_true _)); exact ints_refl _; exact ints_refl _; exact awake_ev) ?_
    refine LWp.ret (retT (.inr rfl) (.one (.tmp ?_ rfl)))
    rfl
  · have hv : validB b = false := by
      cases h : validB b with
      | false => rfl
      | true => exact absurd (validB_iff.1 h) V
    rw [hv] at ev
    refine LWp.x (gs := []) (hs := [.ret (B false)]) rfl ⟨ev, trivial⟩ ?_
    refine LWp.ite (b := true) rfl (fun _ => ?_) (fun h => by cases h)
    refine LWp.sx (gs := []) (hs := [.ret (B true)]) rfl ⟨awake_ev, trivial⟩ ?_
    refine LWp.ret (retT (.inr rfl) (.one (.tmp ?_ rfl)))
    rfl
end Go.Px

