/- Part 2 of the proofs of the statements of this seat (a logic of pure contracts, the functions lowered, their contracts). No conditions. -/
import Derived.Test.YtcioapljmakidaaGreatD1
namespace Go.Px
def only (f : List Nat) (env : Env) : Env := fun t => bif f.any (Nat.beq t) then env t else .any
def keysOf (W : List (Nat × AV)) : List Nat := W.map (·.1)
def disjB (a b : List Nat) : Bool := a.all fun x => !(b.any (Nat.beq x))
def subB (a b : List Nat) : Bool := a.all fun x => b.any (Nat.beq x)
theorem any_beq {l : List Nat} {x : Nat} : l.any (Nat.beq x) = true ↔ x ∈ l := by
  simp only [List.any_eq_true]
  constructor
  · rintro ⟨y, hy, h⟩; rw [Nat.eq_of_beq_eq_true h]; exact hy
  · intro h; exact ⟨x, h, Nat.beq_refl x⟩
theorem disjB_spec {a b : List Nat} (h : disjB a b = true) {x : Nat} (ha : x ∈ a) : x ∉ b := by
  have := List.all_eq_true.1 h x ha
  intro hb
  rw [any_beq.2 hb] at this
  cases this
theorem subB_spec {a b : List Nat} (h : subB a b = true) {x : Nat} (ha : x ∈ a) : x ∈ b := any_beq.1 (List.all_eq_true.1 h x ha)
theorem updL_append : ∀ (A B : List (Nat × AV)) (env : Env), updL env (A ++ B) = updL (updL env A) B
  | [], B, env => rfl
  | (d, p) :: A, B, env => by simp only [List.cons_append, updL]; exact updL_append A B _
theorem keysOf_append (A B : List (Nat × AV)) : keysOf (A ++ B) = keysOf A ++ keysOf B := by simp [keysOf]
theorem updL_comm {A B : List (Nat × AV)} {env : Env} (h : ∀ x, x ∈ keysOf A → x ∉ keysOf B) : updL env (A ++ B) = updL env (B ++ A) := by
  funext t
  rw [updL_append, updL_append]
  by_cases ha : t ∈ keysOf A
  · have hb := h t ha
    rw [updL_out (W := B) hb, updL_in (W := A) ha]
  · rw [updL_out (W := A) ha]
    by_cases hb : t ∈ keysOf B
    · exact updL_in hb
    · rw [updL_out (W := B) hb, updL_out (W := B) hb, updL_out (W := A) ha]
def wsel (s : Nat → Bool) : Nat → List (List (Nat × AV)) → List (Nat × AV)
  | _, [] => []
  | i, W :: Ws => (if s i then W else []) ++ wsel s (i + 1) Ws
theorem wsel_congr {s s' : Nat → Bool} {t : Nat} : ∀ {Ws : List (List (Nat × AV))} {i : Nat} {env env' : Env}, env t = env' t →
    (∀ k W, Ws[k]? = some W → s (i + k) = s' (i + k) ∨ t ∉ keysOf W) → updL env (wsel s i Ws) t = updL env' (wsel s' i Ws) t
  | [], i, env, env', e, _ => e
  | W :: Ws, i, env, env', e, h => by
    simp only [wsel, updL_append]
    refine wsel_congr (i := i + 1) ?_ (fun k W' hk => by have := h (k + 1) W' (by simpa using hk); rwa [Nat.add_assoc, Nat.add_comm 1 k])
    rcases h 0 W rfl with h0 | h0
    · simp only [Nat.add_zero] at h0
      rw [h0]
      split
      · exact updL_congr e
      · exact e
    · have : ∀ (b : Bool) (E : Env), updL E (if b = true then W else []) t = E t := by
        intro b E
        cases b
        · rfl
        · exact updL_out h0
      rw [this, this]; exact e
theorem wsel_all {s : Nat → Bool} : ∀ {Ws : List (List (Nat × AV))} {i : Nat}, (∀ k, k < Ws.length → s (i + k) = true) → wsel s i Ws = Ws.flatten
  | [], _, _ => rfl
  | W :: Ws, i, h => by
    simp only [wsel, List.flatten_cons]
    rw [show s i = true from h 0 (by simp), wsel_all (fun k hk => by rw [Nat.add_assoc, Nat.add_comm 1 k]; exact h (k + 1) (by simpa using hk))]
    rfl
theorem wsel_none {s : Nat → Bool} : ∀ {Ws : List (List (Nat × AV))} {i : Nat}, (∀ k, s (i + k) = false) → wsel s i Ws = []
  | [], _, _ => rfl
  | W :: Ws, i, h => by
    simp only [wsel]
    rw [show s i = false from h 0, wsel_none (fun k => by rw [Nat.add_assoc, Nat.add_comm 1 k]; exact h (k + 1))]
    rfl
theorem wsel_take {n : Nat} : ∀ {Ws : List (List (Nat × AV))} {i : Nat}, wsel (fun k => decide (k < i + n)) i Ws = (Ws.take n).flatten := by
  induction n with
  | zero => intro Ws i; rw [wsel_none (fun k => by simp)]; simp
  | succ n ih =>
    intro Ws i
    cases Ws with
    | nil => rfl
    | cons W Ws =>
      have : i < i + (n + 1) := by omega
      simp only [wsel, List.take_succ_cons, List.flatten_cons, this, decide_true, if_true]
      have := ih (Ws := Ws) (i := i + 1)
      rw [show i + 1 + n = i + (n + 1) from by omega] at this
      rw [this]
theorem wsel_add {s : Nat → Bool} {j : Nat} {W : List (Nat × AV)} : ∀ {Ws : List (List (Nat × AV))} {i : Nat} {env : Env}, Ws[j]? = some W → s (i + j) = false →
    (∀ k W', Ws[k]? = some W' → j < k → s (i + k) = true → ∀ x ∈ keysOf W, x ∉ keysOf W') →
    updL env (wsel (fun k => s k || Nat.beq k (i + j)) i Ws) = updL (updL env (wsel s i Ws)) W := by
  induction j with
  | zero =>
    intro Ws i env hj hs hd
    cases Ws with
    | nil => cases hj
    | cons W0 Ws =>
      simp only [List.getElem?_cons_zero, Option.some.injEq] at hj
      subst hj
      simp only [Nat.add_zero] at hs
      simp only [wsel, hs, Nat.add_zero, Nat.beq_refl, Bool.or_true, if_true, Bool.false_eq_true, if_false, List.nil_append]
      have e : wsel (fun k => s k || Nat.beq k i) (i + 1) Ws = wsel s (i + 1) Ws := by
        have : ∀ (Ws : List (List (Nat × AV))) (m : Nat), i < m → wsel (fun k => s k || Nat.beq k i) m Ws = wsel s m Ws := by
          intro Ws
          induction Ws with
          | nil => intro m _; rfl
          | cons W1 Ws ih =>
            intro m hm
            simp only [wsel]
            have hb : Nat.beq m i = false := by
              cases h : Nat.beq m i with
              | false => rfl
              | true => have := Nat.eq_of_beq_eq_true h; omega
            simp only [hb, Bool.or_false, ih (m + 1) (by omega)]
        exact this Ws (i + 1) (by omega)
      rw [e, ← updL_append]
      apply updL_comm
      intro x hx hm
      have : ∀ (Vs : List (List (Nat × AV))) (m : Nat), x ∈ keysOf (wsel s m Vs) → ∃ k W', Vs[k]? = some W' ∧ s (m + k) = true ∧ x ∈ keysOf W' := by
        intro Vs
        induction Vs with
        | nil => intro m h; simp [wsel, keysOf] at h
        | cons V Vs ih =>
          intro m h
          simp only [wsel, keysOf_append, List.mem_append] at h
          rcases h with h | h
          · cases hsm : s m with
            | true => rw [hsm] at h; exact ⟨0, V, rfl, hsm, h⟩
            | false => rw [hsm] at h; simp [keysOf] at h
          · obtain ⟨k, W', h1, h2, h3⟩ := ih (m + 1) h
            exact ⟨k + 1, W', by simpa using h1, by rw [← h2]; congr 1; omega, h3⟩
      obtain ⟨k, W', h1, h2, h3⟩ := this Ws (i + 1) hm
      exact hd (k + 1) W' (by simpa using h1) (by omega) (by rw [← h2]; congr 1; omega) x hx h3
  | succ j ih =>
    intro Ws i env hj hs hd
    cases Ws with
    | nil => cases hj
    | cons W0 Ws =>
      have hb : Nat.beq i (i + (j + 1)) = false := by
        cases h : Nat.beq i (i + (j + 1)) with
        | false => rfl
        | true => have := Nat.eq_of_beq_eq_true h; omega
      simp only [wsel, hb, Bool.or_false, updL_append]
      have := ih (Ws := Ws) (i := i + 1) (env := updL env (if s i = true then W0 else [])) (by simpa using hj) (by rw [← hs]; congr 1; omega)
        (fun k W' h1 h2 h3 => hd (k + 1) W' (by simpa using h1) (by omega) (by rw [← h3]; congr 1; omega))
      rw [show i + 1 + j = i + (j + 1) from by omega] at this
      exact this
def maskOf (acc : List Nat) : List Nat → Nat
  | [] => 0
  | p :: ps => ((1 <<< p) ||| acc.getD p 0) ||| maskOf acc ps
def ancs : List Nat → List (List Nat) → List Nat
  | acc, [] => acc
  | acc, p :: ps => ancs (acc ++ [maskOf acc p]) ps
theorem maskOf_spec {acc : List Nat} {s : Nat → Bool} {i : Nat} (ha : ∀ j, s j = true → (acc.getD j 0).testBit i = true → s i = true) : ∀ {ps : List Nat}, (∀ p ∈ ps, s p = true) → (maskOf acc ps).testBit i = true → s i = true
  | [], _, h => by simp [maskOf] at h
  | p :: ps, hp, h => by
    simp only [maskOf, Nat.testBit_or, Bool.or_eq_true] at h
    rcases h with (h | h) | h
    · have : i = p := by
        rw [Nat.testBit_shiftLeft] at h
        simp only [Bool.and_eq_true, decide_eq_true_eq] at h
        have h2 := h.2
        have : i - p = 0 := by
          cases hq : i - p with
          | zero => rfl
          | succ q => rw [hq] at h2; simp [Nat.testBit_succ] at h2
        omega
      subst this
      exact hp _ (by simp)
    · exact ha p (hp p (by simp)) h
    · exact maskOf_spec ha (fun q hq => hp q (by simp [hq])) h
theorem ancs_spec {s : Nat → Bool} {i : Nat} : ∀ {ps : List (List Nat)} {acc : List Nat}, (∀ j, s j = true → (acc.getD j 0).testBit i = true → s i = true) →
    (∀ k p, ps[k]? = some p → s (acc.length + k) = true → ∀ q ∈ p, s q = true) → ∀ j, s j = true → ((ancs acc ps).getD j 0).testBit i = true → s i = true
  | [], acc, ha, _, j, hj, h => ha j hj h
  | p :: ps, acc, ha, hc, j, hj, h => by
    simp only [ancs] at h
    refine ancs_spec (ps := ps) (acc := acc ++ [maskOf acc p]) ?_ ?_ j hj h
    · intro j hj h
      by_cases hlt : j < acc.length
      · rw [List.getD_eq_getElem?_getD, List.getElem?_append_left hlt, ← List.getD_eq_getElem?_getD] at h
        exact ha j hj h
      · by_cases he : j = acc.length
        · subst he
          rw [List.getD_eq_getElem?_getD, List.getElem?_append_right (Nat.le_refl _)] at h
          simp only [Nat.sub_self, List.getElem?_cons_zero, Option.getD_some] at h
          exact maskOf_spec ha (hc 0 p rfl (by simpa using hj)) h
        · rw [List.getD_eq_getElem?_getD, List.getElem?_eq_none (by simp; omega)] at h
          simp at h
    · intro k q hk hs
      exact hc (k + 1) q (by simpa using hk) (by simp only [List.length_append, List.length_cons, List.length_nil] at hs; rw [← hs]; congr 1; omega)
def okPairs (A : List Nat) (infos : List (List Nat × List Nat)) : Bool :=
  (List.range infos.length).all fun j => (List.range j).all fun i => (A.getD j 0).testBit i ||
    (match infos[i]?, infos[j]? with
      | some (fi, ki), some (fj, kj) => disjB ki fj && disjB kj fi
      | _, _ => false)
def okSuf (A : List Nat) (m n : Nat) : Bool := (List.range n).all fun j => Nat.blt j m || (List.range j).all fun i => (A.getD j 0).testBit i
def okBack : Nat → List (List Nat) → Bool
  | _, [] => true
  | j, p :: ps => (p.all fun i => Nat.blt i j) && okBack (j + 1) ps
def okDraw (ps : List (List Nat)) (infos : List (List Nat × List Nat)) : Bool := okPairs (ancs [] ps) infos && okSuf (ancs [] ps) infos.length ps.length && okBack 0 ps
theorem okBack_spec : ∀ {ps : List (List Nat)} {j : Nat}, okBack j ps = true → ∀ k p, ps[k]? = some p → ∀ i ∈ p, i < j + k
  | [], j, _, k, p, h, i, hi => by simp at h
  | q :: ps, j, h, k, p, hk, i, hi => by
    simp only [okBack, Bool.and_eq_true] at h
    cases k with
    | zero =>
      simp only [List.getElem?_cons_zero, Option.some.injEq] at hk
      subst hk
      have := List.all_eq_true.1 h.1 i hi
      exact Nat.lt_of_lt_of_le (Nat.lt_succ_self i) (Nat.le_of_ble_eq_true this)
    | succ k =>
      have := okBack_spec h.2 k p (by simpa using hk) i hi
      omega
def dstIn (dst : Option Nat) (k : List Nat) : Bool := match dst with | none => true | some d => k.any (Nat.beq d)
def QStep (P : Program) (r : Option Nat) (N : Nat) (l : LOper) (env : Env) (H : Heap) (D : List Nat) (W : List (Nat × AV)) : Prop :=
  match l.guard with
  | none => Q1 P r N l.op l.dst env H D W
  | some (t, b) => (∃ c : Bool, env t = .v (.bool c) ∧ ((c = b ∧ Q1 P r N l.op l.dst env H D W) ∨ (c ≠ b ∧ ∃ d, l.dst = some d ∧ W = [(d, .v undef)]))) ∨
    (∃ cs, env t = .v (.tuple cs)) ∧ ∃ d, l.dst = some d ∧ W = [(d, .v undef)]
def QChg (P : Program) (r : Option Nat) (N : Nat) (l : LOper) (env : Env) (H H1 : Heap) (D : List Nat) (W : List (Nat × AV)) : Prop :=
  l.guard = none ∧ H1.map (·.1) = H.map (·.1) ∧ Q1g P r N l.op l.dst env H H1 D W
abbrev InfoG := List Nat × List Nat × Bool × Bool
inductive DChG (P : Program) (r : Option Nat) (N : Nat) (Hs : Bool → Heap) (q : Nat) (D : List Nat) : Nat → Env → List (LOper × List Nat) → List InfoG → List LOper → Env → Prop where
  | nil {i env ops} : DChG P r N Hs q D i env ops [] (ops.map (·.1)) env
  | cons {i env l pr rest infos suf env' W} (f : List Nat) (k0 k1 : Bool) (hi : i ≠ q) (h0 : k0 = true → QStep P r N l (only f env) (Hs false) D W) (h1 : k1 = true → QStep P r N l (only f env) (Hs true) D W)
      (hk : subB (keysOf W) f = true) (hd : dstIn l.dst (keysOf W) = true) (k : DChG P r N Hs q D (i + 1) (updL env W) rest infos suf env') :
      DChG P r N Hs q D i env ((l, pr) :: rest) ((f, keysOf W, k0, k1) :: infos) suf env'
  | chg {i env l pr rest infos suf env' W} (f : List Nat) (hi : i = q) (h : QChg P r N l (only f env) (Hs false) (Hs true) D W)
      (hk : subB (keysOf W) f = true) (hd : dstIn l.dst (keysOf W) = true) (k : DChG P r N Hs q D (i + 1) (updL env W) rest infos suf env') :
      DChG P r N Hs q D i env ((l, pr) :: rest) ((f, keysOf W, true, true) :: infos) suf env'
def okFlags (A : List Nat) (q : Nat) (infos : List InfoG) : Bool := (List.range infos.length).all fun i => Nat.beq i q ||
  (match infos[i]? with
    | some (_, _, k0, k1) => (k0 || (A.getD i 0).testBit q) && (k1 || (A.getD q 0).testBit i)
    | none => false)
def fkOf (infos : List InfoG) : List (List Nat × List Nat) := infos.map fun x => (x.1, x.2.1)
def okDrawG (ps : List (List Nat)) (q : Nat) (infos : List InfoG) : Bool := okDraw ps (fkOf infos) && okFlags (ancs [] ps) q infos && Nat.blt q infos.length
inductive DCh (P : Program) (r : Option Nat) (N : Nat) (H : Heap) (D : List Nat) : Env → List (LOper × List Nat) → List (List Nat × List Nat) → List LOper → Env → Prop where
  | nil {env ops} : DCh P r N H D env ops [] (ops.map (·.1)) env
  | cons {env l pr rest infos suf env' W} (f : List Nat) (h : QStep P r N l (only f env) H D W) (hk : subB (keysOf W) f = true) (hd : dstIn l.dst (keysOf W) = true)
      (k : DCh P r N H D (updL env W) rest infos suf env') : DCh P r N H D env ((l, pr) :: rest) ((f, keysOf W) :: infos) suf env'
section
variable {P : Program} {r : Option Nat} {N : Nat} {Q : Post} {env env0 : Env} {H : Heap} {D : List Nat}
structure DFacts (P : Program) (r : Option Nat) (N : Nat) (Hs : Bool → Heap) (q : Nat) (D : List Nat) (i0 : Nat) (env : Env) (ops : List (LOper × List Nat)) (infos : List InfoG) (suf : List LOper) (env' : Env) (Ws : List (List (Nat × AV))) : Prop where
  len : Ws.length = infos.length
  le : infos.length ≤ ops.length
  suf : (ops.drop infos.length).map (·.1) = suf
  fin : env' = updL env Ws.flatten
  step : ∀ i f k k0 k1, infos[i]? = some (f, k, k0, k1) → ∃ W l pr, Ws[i]? = some W ∧ ops[i]? = some (l, pr) ∧
    (i0 + i ≠ q → (k0 = true → QStep P r N l (only f (updL env (Ws.take i).flatten)) (Hs false) D W) ∧ (k1 = true → QStep P r N l (only f (updL env (Ws.take i).flatten)) (Hs true) D W)) ∧
    (i0 + i = q → QChg P r N l (only f (updL env (Ws.take i).flatten)) (Hs false) (Hs true) D W) ∧ k = keysOf W ∧ subB k f = true ∧ dstIn l.dst k = true
theorem DChG.facts {Hs : Bool → Heap} {q i0 : Nat} {ops : List (LOper × List Nat)} {infos : List InfoG} {suf : List LOper} {env' : Env} (h : DChG P r N Hs q D i0 env ops infos suf env') : ∃ Ws, DFacts P r N Hs q D i0 env ops infos suf env' Ws := by
  have go : ∀ {i0 : Nat} {env : Env} {l : LOper} {pr : List Nat} {rest : List (LOper × List Nat)} {infos : List InfoG} {suf : List LOper} {env' : Env} {W : List (Nat × AV)} {f : List Nat} {k0 k1 : Bool} {Ws : List (List (Nat × AV))},
      DFacts P r N Hs q D (i0 + 1) (updL env W) rest infos suf env' Ws →
      (i0 ≠ q → (k0 = true → QStep P r N l (only f env) (Hs false) D W) ∧ (k1 = true → QStep P r N l (only f env) (Hs true) D W)) → (i0 = q → QChg P r N l (only f env) (Hs false) (Hs true) D W) →
      subB (keysOf W) f = true → dstIn l.dst (keysOf W) = true → DFacts P r N Hs q D i0 env ((l, pr) :: rest) ((f, keysOf W, k0, k1) :: infos) suf env' (W :: Ws) := by
    rintro i0 env l pr rest infos suf env' W f k0 k1 Ws ⟨f1, f2, f3, f4, f5⟩ h1 h2 hk hd
    refine ⟨by simp [f1], by simp; omega, by simpa using f3, ?_, ?_⟩
    · rw [f4, List.flatten_cons, updL_append]
    · intro i f' k k0' k1' hi
      cases i with
      | zero =>
        simp only [List.getElem?_cons_zero, Option.some.injEq, Prod.mk.injEq] at hi
        obtain ⟨rfl, rfl, rfl, rfl⟩ := hi
        exact ⟨W, l, pr, rfl, rfl, h1, h2, rfl, hk, hd⟩
      | succ i =>
        simp only [List.getElem?_cons_succ] at hi
        obtain ⟨W', l', pr', h1', h2', h3, h4, h5⟩ := f5 i f' k k0' k1' hi
        have e : i0 + 1 + i = i0 + (i + 1) := by omega
        rw [e] at h3 h4
        refine ⟨W', l', pr', by simpa using h1', by simpa using h2', ?_, ?_, h5⟩
        · rw [List.take_succ_cons, List.flatten_cons, updL_append]
          exact h3
        · rw [List.take_succ_cons, List.flatten_cons, updL_append]
          exact h4
  induction h with
  | nil => exact ⟨[], rfl, by simp, rfl, rfl, by intro i f k k0 k1 h; simp at h⟩
  | cons f k0 k1 hi h0 h1 hk hd _ ih =>
    obtain ⟨Ws, hf⟩ := ih
    exact ⟨_, go hf (fun _ => ⟨h0, h1⟩) (fun e => absurd e hi) hk hd⟩
  | chg f hi h hk hd _ ih =>
    obtain ⟨Ws, hf⟩ := ih
    exact ⟨_, go hf (fun e => absurd hi e) (fun _ => h) hk hd⟩
theorem DCh.toG {q : Nat} {ops : List (LOper × List Nat)} {infos : List (List Nat × List Nat)} {suf : List LOper} {env' : Env} (h : DCh P r N H D env ops infos suf env') : ∀ i0, i0 + ops.length ≤ q →
    DChG P r N (fun _ => H) q D i0 env ops (infos.map fun x => (x.1, x.2, true, true)) suf env' := by
  induction h with
  | nil => intro i0 _; exact .nil
  | cons f h hk hd _ ih => intro i0 hq; simp only [List.length_cons] at hq; exact .cons f true true (by omega) (fun _ => h) (fun _ => h) hk hd (ih (i0 + 1) (by omega))
theorem only_in {f : List Nat} {e : Env} {t : Nat} (h : only f e t ≠ .any) : t ∈ f ∧ only f e t = e t := by
  unfold only at h ⊢
  cases hb : f.any (Nat.beq t) with
  | false => rw [hb] at h; exact absurd rfl h
  | true => exact ⟨any_beq.1 hb, rfl⟩
theorem QStep.wpOpIn {arr : Array Oper} {i : Nat} {l : LOper} {W : List (Nat × AV)} (hm : Match1 P N arr i l) (hq : QStep P r N l env0 H D W) (hd : dstIn l.dst (keysOf W) = true)
    (hsub : ∀ t, env0 t = .any ∨ env0 t = env t) {C : Ctx} {a : Act} {w : World} {S : Snap} {L : Nat → Option Nat} (hN : C.N = N) (hs : Sat C env H D a w S L) {K : Act → World → Prop} {QQ : Exit → Act → World → Prop}
    (hK : ∀ a' w' S' L', Sat C (updL env W) H D a' w' S' L' → K a' w') : wpOpIn (Fw r) 0 P arr QQ i K a w := by
  obtain ⟨o, ho, hdst, hdN, hlo, hg⟩ := hm.at_
  have hd' : ∀ d, l.dst = some d → d ∈ W.map (·.1) := by
    intro d e
    rw [e] at hd
    exact any_beq.1 hd
  unfold Go.wpOpIn
  simp only [ho]
  have hrun : Q1 P r N l.op l.dst env0 H D W → o.wpIn (Fw r) 0 P a w K QQ := by
    intro h1
    refine (Q1.frame hsub h1 hd') o hdst hdN hlo C a w S L hN hs K QQ ?_
    rintro env' H' D' y w' S' L' ⟨rfl, rfl, rfl⟩ hs' _
    rw [← hdst] at hs' ⊢
    exact hK _ _ _ _ hs'
  unfold QStep at hq
  rcases hg with ⟨hg, hg'⟩ | ⟨j, t, b, hg, hg', hj⟩
  · rw [hg] at hq
    rw [wanted_none hg', if_pos rfl]
    exact hrun hq
  · rw [hg] at hq
    have hnot : Region.wanted o (yielded arr a.tmps) = false → (∃ d, l.dst = some d ∧ W = [(d, .v undef)]) → (if Region.wanted o (yielded arr a.tmps) = true then o.wpIn (Fw r) 0 P a w K QQ else (∀ f, o.about P w a.eval = some f → (Fw r).fn f) ∧ K (a.put o.dst undef) w) := by
      rintro hw ⟨d, hdd, rfl⟩
      rw [hw, if_neg (by simp)]
      refine ⟨fun _ _ => trivial, ?_⟩
      obtain ⟨L', hs'⟩ := hs.putO (dst := some d) (fun d' e => by cases e; exact hN ▸ hdN d hdd) (p := .v undef) rfl (by simp [Rep] : Rep S (.v undef) undef)
      rw [hdst, hdd]
      exact hK _ _ _ _ hs'
    rcases hq with ⟨c, hc, hq⟩ | ⟨⟨cs, hc⟩, hq⟩
    · have hct : env t = .v (.bool c) := by
        rcases hsub t with e | e
        · rw [e] at hc; cases hc
        · rw [← e]; exact hc
      rcases hq with ⟨hcb, hq⟩ | ⟨hcb, hq⟩
      · have hw : Region.wanted o (yielded arr a.tmps) = true := by simp [Region.wanted, hg', yielded_rep hs hj hct, hcb]
        rw [hw, if_pos rfl]
        exact hrun hq
      · exact hnot (by simp [Region.wanted, hg', yielded_rep hs hj hct, hcb]) hq
    · have hct : env t = .v (.tuple cs) := by
        rcases hsub t with e | e
        · rw [e] at hc; cases hc
        · rw [← e]; exact hc
      exact hnot (by simp [Region.wanted, hg', yielded_tuple hs hj hct]) hq
theorem QChg.wpOpIn {H1 : Heap} {arr : Array Oper} {i : Nat} {l : LOper} {W : List (Nat × AV)} (hm : Match1 P N arr i l) (hq : QChg P r N l env0 H H1 D W) (hd : dstIn l.dst (keysOf W) = true)
    (hsub : ∀ t, env0 t = .any ∨ env0 t = env t) {C : Ctx} {a : Act} {w : World} {S : Snap} {L : Nat → Option Nat} (hN : C.N = N) (hs : Sat C env H D a w S L) {K : Act → World → Prop} {QQ : Exit → Act → World → Prop}
    (hK : ∀ a' w' S' L', Sat C (updL env W) H1 D a' w' S' L' → K a' w') : wpOpIn (Fw r) 0 P arr QQ i K a w := by
  obtain ⟨o, ho, hdst, hdN, hlo, hg⟩ := hm.at_
  have hd' : ∀ d, l.dst = some d → d ∈ W.map (·.1) := by
    intro d e
    rw [e] at hd
    exact any_beq.1 hd
  obtain ⟨hq0, hkeys, hq⟩ := hq
  have hg' : o.guard = none := by
    rcases hg with ⟨_, hg⟩ | ⟨j, t, b, hg, _⟩
    · exact hg
    · rw [hq0] at hg; cases hg
  unfold Go.wpOpIn
  simp only [ho]
  rw [wanted_none hg', if_pos rfl]
  refine (Q1g.frame hkeys hsub hq hd') o hdst hdN hlo C a w S L hN hs K QQ ?_
  rintro env' H' D' y w' S' L' ⟨rfl, rfl, rfl⟩ hs' _
  rw [← hdst] at hs' ⊢
  exact hK _ _ _ _ hs'
theorem MatchL.get {arr : Array Oper} : ∀ {is : List Nat} {ls : List LOper} {k i : Nat}, MatchL P N arr is ls → is[k]? = some i → ∃ l, ls[k]? = some l ∧ Match1 P N arr i l
  | [], _, k, i, _, h => by simp at h
  | i0 :: is, ls, k, i, hm, h => by
    obtain ⟨l, ls', rfl, h1, h2⟩ := hm
    cases k with
    | zero => simp only [List.getElem?_cons_zero, Option.some.injEq] at h; subst h; exact ⟨l, rfl, h1⟩
    | succ k => exact h2.get (by simpa using h)
theorem MatchL.drop {arr : Array Oper} : ∀ {is : List Nat} {ls : List LOper} (k : Nat), MatchL P N arr is ls → MatchL P N arr (is.drop k) (ls.drop k)
  | is, ls, 0, h => by simpa using h
  | [], ls, k + 1, h => by
    simp only [MatchL] at h
    subst h; simp [MatchL]
  | i0 :: is, ls, k + 1, hm => by
    obtain ⟨l, ls', rfl, h1, h2⟩ := hm
    exact MatchL.drop k h2
theorem MatchL.length {arr : Array Oper} : ∀ {is : List Nat} {ls : List LOper}, MatchL P N arr is ls → ls.length = is.length
  | [], ls, h => by simp only [MatchL] at h; subst h; rfl
  | i0 :: is, ls, hm => by
    obtain ⟨l, ls', rfl, h1, h2⟩ := hm
    simp [h2.length]
theorem countP_lt {p q : Nat → Bool} {i : Nat} : ∀ {l : List Nat}, (∀ x, q x = true → p x = true) → i ∈ l → p i = true → q i = false → l.countP q < l.countP p
  | [], _, h, _, _ => by cases h
  | x :: l, hpq, h, hp, hq => by
    have mono : ∀ l : List Nat, l.countP q ≤ l.countP p := by
      intro l
      induction l with
      | nil => simp
      | cons y l ih =>
        simp only [List.countP_cons]
        cases hy : q y with
        | true => rw [hpq y hy]; simp; exact ih
        | false => simp; omega
    simp only [List.countP_cons]
    rcases List.mem_cons.1 h with rfl | h
    · rw [hp, hq]; simp; have := mono l; omega
    · have := countP_lt hpq h hp hq
      cases hy : q x with
      | true => rw [hpq x hy]; simp; exact this
      | false => simp; omega
structure Draw (arr : Array Oper) (ps : List (List Nat)) (m : Nat) : Prop where
  eq : ps = arr.toList.map boundBy
  back : okBack 0 ps = true
  suf : okSuf (ancs [] ps) m ps.length = true
  le : m ≤ ps.length
section
variable {arr : Array Oper} {ps : List (List Nat)} {m : Nat}
theorem Draw.size (h : Draw arr ps m) : ps.length = arr.size := by rw [h.eq]; simp
theorem Draw.get (h : Draw arr ps m) {j : Nat} {o : Oper} (ho : arr[j]? = some o) : ps[j]? = some (boundBy o) := by
  rw [h.eq]; simp [ho]
theorem mem_boundBy {o : Oper} {i : Nat} : i ∈ boundBy o ↔ ∃ e ∈ o.after, Region.binds .any e = true ∧ e.on = i := by
  unfold boundBy
  simp only [List.mem_map, List.mem_filter, Array.mem_toList_iff]
  constructor
  · rintro ⟨e, ⟨h1, h2⟩, h3⟩; exact ⟨e, h1, h2, h3⟩
  · rintro ⟨e, h1, h2, h3⟩; exact ⟨e, ⟨h1, h2⟩, h3⟩
def Closed (ps : List (List Nat)) (s : Nat → Bool) : Prop := ∀ k p, ps[k]? = some p → s k = true → ∀ q ∈ p, s q = true
theorem Closed.anc {s : Nat → Bool} (h : Closed ps s) {i j : Nat} (hj : s j = true) (hb : ((ancs [] ps).getD j 0).testBit i = true) : s i = true :=
  ancs_spec (acc := []) (by intro j _ h; simp at h) (fun k p hk hs => h k p hk (by simpa using hs)) j hj hb
theorem Draw.ready (h : Draw arr ps m) {listed : Array Bool} {j : Nat} (hj : j ∈ Region.ready .any arr listed) : j < arr.size ∧ listed.getD j true = false ∧ ∃ p, ps[j]? = some p ∧ ∀ q ∈ p, listed.getD q true = true := by
  obtain ⟨hf, o, ho, hall⟩ := mem_ready.1 hj
  refine ⟨?_, hf, boundBy o, h.get ho, ?_⟩
  · rcases Nat.lt_or_ge j arr.size with h | h
    · exact h
    · rw [Array.getElem?_eq_none h] at ho; cases ho
  · intro q hq
    obtain ⟨e, he, hb, rfl⟩ := mem_boundBy.1 hq
    have := hall e he hb
    rw [Array.getD_eq_getD_getElem?] at this ⊢
    cases hx : listed[e.on]? with
    | none => rfl
    | some b => rw [hx] at this; simpa using this
theorem Draw.isReady (h : Draw arr ps m) {listed : Array Bool} (hsz : listed.size = arr.size) {j : Nat} (hj : j < arr.size) (hf : listed.getD j true = false) (hall : ∀ i, i < j → listed.getD i true = true) : j ∈ Region.ready .any arr listed := by
  refine mem_ready.2 ⟨hf, arr[j], by simp [hj], fun e he hb => ?_⟩
  have hg := h.get (j := j) (o := arr[j]) (by simp [hj])
  have hlt := okBack_spec h.back j _ hg e.on (mem_boundBy.2 ⟨e, he, hb, rfl⟩)
  have := hall e.on (by omega)
  rw [Array.getD_eq_getD_getElem?] at this ⊢
  have hin : e.on < listed.size := by omega
  rw [Array.getElem?_eq_getElem hin] at this ⊢
  simpa using this
theorem Closed.add {s : Nat → Bool} {j : Nat} (h : Closed ps s) {p : List Nat} (hp : ps[j]? = some p) (hall : ∀ q ∈ p, s q = true) : Closed ps (fun k => s k || Nat.beq k j) := by
  intro k p' hk hs q hq
  simp only [Bool.or_eq_true] at hs ⊢
  rcases hs with hs | hs
  · exact .inl (h k p' hk hs q hq)
  · have := Nat.eq_of_beq_eq_true hs
    subst this
    rw [hp] at hk; cases hk
    exact .inl (hall q hq)
theorem Draw.rest (h : Draw arr ps m) {s : Nat → Bool} (hc : Closed ps s) {j : Nat} (hj : j < arr.size) (hm : m ≤ j) {p : List Nat} (hp : ps[j]? = some p) (hall : ∀ q ∈ p, s q = true) {i : Nat} (hi : i < j) : s i = true := by
  have h1 := hc.add hp hall
  have h2 := List.all_eq_true.1 h.suf j (List.mem_range.2 (by rw [h.size]; exact hj))
  simp only [Bool.or_eq_true] at h2
  rcases h2 with h2 | h2
  · have : j < m := Nat.lt_of_lt_of_le (Nat.lt_succ_self j) (Nat.le_of_ble_eq_true h2)
    omega
  · have h3 := List.all_eq_true.1 h2 i (List.mem_range.2 hi)
    have h4 := h1.anc (i := i) (j := j) (by simp) h3
    simp only [Bool.or_eq_true] at h4
    rcases h4 with h4 | h4
    · exact h4
    · have := Nat.eq_of_beq_eq_true h4; omega
theorem getD_set {l : Array Bool} {i k : Nat} (hi : i < l.size) : (l.setIfInBounds i true).getD k true = (l.getD k true || Nat.beq k i) := by
  by_cases h : k = i
  · subst h
    simp [Array.getD_eq_getD_getElem?, hi]
  · have hb : Nat.beq k i = false := by
      cases hx : Nat.beq k i with
      | false => rfl
      | true => exact absurd (Nat.eq_of_beq_eq_true hx) h
    rw [hb, Bool.or_false]
    exact getD_set_ne true (Ne.symm h)
theorem Draw.seq (hd : Draw arr ps m) {F : Fence} {n : Nat} {QQ : Exit → Act → World → Prop} : ∀ (fuel j : Nat) (listed : Array Bool) (a : Act) (w : World), listed.size = arr.size → m ≤ j → j ≤ arr.size →
    (∀ k, k < arr.size → (listed.getD k true = true ↔ k < j)) → arr.size ≤ j + fuel → wpOpsIn F n P arr QQ (List.range' j (arr.size - j)) a w → wpAnyIn F n P .any arr QQ fuel listed a w := by
  intro fuel
  induction fuel with
  | zero =>
    intro j listed a w hsz hmj hja hl hf h
    have he : arr.size - j = 0 := by omega
    rw [he] at h
    refine ⟨?_, h⟩
    cases hr : Region.ready .any arr listed with
    | nil => rfl
    | cons x xs =>
      obtain ⟨h1, h2, _⟩ := hd.ready (listed := listed) (j := x) (by rw [hr]; simp)
      rw [(hl x h1).2 (by omega)] at h2; cases h2
  | succ fuel ih =>
    intro j listed a w hsz hmj hja hl hf h
    by_cases hj : j < arr.size
    · have hjr : j ∈ Region.ready .any arr listed := hd.isReady hsz hj (by
        cases hx : listed.getD j true with
        | false => rfl
        | true => have := (hl j hj).1 hx; omega) (fun i hi => (hl i (by omega)).2 hi)
      refine ⟨fun hr => (by rw [hr] at hjr; cases hjr), fun i hi => ?_⟩
      obtain ⟨h1, h2, p, h3, h4⟩ := hd.ready hi
      have hij : i = j := by
        have hge : j ≤ i := by
          rcases Nat.lt_or_ge i j with hh | hh
          · rw [(hl i h1).2 hh] at h2; cases h2
          · exact hh
        rcases Nat.lt_or_ge j i with hh | hh
        · have hcl : Closed ps (fun k => listed.getD k true) := by
            intro k p' hk hs q hq
            have hkn : k < arr.size := by
              have := (List.getElem?_eq_some_iff.1 hk).1
              rw [hd.size] at this; exact this
            have hkj := (hl k hkn).1 hs
            have := okBack_spec hd.back k p' hk q hq
            exact (hl q (by omega)).2 (by omega)
          have := hd.rest hcl h1 (by omega) h3 h4 hh
          have := (hl j hj).1 this
          omega
        · omega
      subst hij
      have e : List.range' i (arr.size - i) = i :: List.range' (i + 1) (arr.size - (i + 1)) := by
        have : arr.size - i = (arr.size - (i + 1)) + 1 := by omega
        rw [this, List.range'_succ]
      rw [e, wpOpsIn_cons] at h
      refine wpOpIn_mono (fun a' w' h' => ih (i + 1) (listed.setIfInBounds i true) a' w' (by simpa using hsz) (by omega) (by omega) ?_ (by omega) h') h
      intro k hk
      rw [getD_set (by omega)]
      simp only [Bool.or_eq_true, hl k hk]
      constructor
      · rintro (h | h)
        · omega
        · have := Nat.eq_of_beq_eq_true h; omega
      · intro h
        by_cases hki : k = i
        · subst hki; exact .inr (Nat.beq_refl k)
        · exact .inl (by omega)
    · have he : arr.size - j = 0 := by omega
      rw [he] at h
      refine ⟨fun _ => h, fun i hi => ?_⟩
      obtain ⟨h1, h2, _⟩ := hd.ready hi
      rw [(hl i h1).2 (by omega)] at h2; cases h2
end
theorem LWp.dopsG {Hs : Bool → Heap} {q : Nat} {ops : List (LOper × List Nat)} {infos : List InfoG} {suf : List LOper} {env' : Env} (hm : P.follows .mixedOrders = true) (hch : DChG P r N Hs q D 0 env ops infos suf env')
    (hok : okDraw (ops.map (·.2)) (fkOf infos) = true) (hflags : okFlags (ancs [] (ops.map (·.2))) q infos = true) (hqn : q < infos.length ∨ (ops.length ≤ q)) (hH : H = Hs (decide (ops.length ≤ q))) (hk : WOps P r N suf Q env' (Hs true) D) : LWp P r N (.dops ops) Q env H D := by
  intro c hc C a w S L hN hs
  generalize hop : LCode.dops ops = lc at hc
  cases hc with
  | @dops id arr ls hml =>
    simp only [LCode.dops.injEq] at hop
    obtain ⟨Ws, f1, f2, f3, f4, f5⟩ := hch.facts
    simp only [okDraw, Bool.and_eq_true] at hok
    obtain ⟨⟨hok1, hok2⟩, hok3⟩ := hok
    have hls : ls.length = arr.size := by rw [hml.length]; simp
    have hps : ops.map (·.2) = arr.toList.map boundBy := by
      rw [hop, List.map_snd_zip]; simp [hls]
    have hl1 : ops.map (·.1) = ls := by
      rw [hop, List.map_fst_zip]; simp [hls]
    have hon : ops.length = arr.size := by rw [← hls, ← hl1]; simp
    have hfl : (fkOf infos).length = infos.length := by simp [fkOf]
    rw [hfl] at hok2
    have hd : Draw arr (ops.map (·.2)) infos.length := ⟨hps, hok3, hok2, by simpa using f2⟩
    have hfk : ∀ (i : Nat) f k k0 k1, infos[i]? = some (f, k, k0, k1) → (fkOf infos)[i]? = some (f, k) := by
      intro i f k k0 k1 h
      simp [fkOf, h]
    refine wpIn_region_any hm ?_
    -- the rest
    have hrest : ∀ (a : Act) (w : World) (S : Snap) (L : Nat → Option Nat), Sat C env' (Hs true) D a w S L → wpOpsIn (Fw r) 0 P arr (PostC C Q) (List.range' infos.length (arr.size - infos.length)) a w := by
      intro a w S L hs
      refine hk arr _ ?_ C a w S L hN hs
      have h1 := hml.drop infos.length
      rw [List.range_eq_range', List.drop_range'] at h1
      rw [← hl1, ← List.map_drop, f3] at h1
      simpa using h1
    have pairs : ∀ i j fi ki fj kj, i < j → (fkOf infos)[i]? = some (fi, ki) → (fkOf infos)[j]? = some (fj, kj) → ((ancs [] (ops.map (·.2))).getD j 0).testBit i = true ∨ ((∀ x ∈ ki, x ∉ fj) ∧ (∀ x ∈ kj, x ∉ fi)) := by
      intro i j fi ki fj kj hij hi hj
      have hjl := (List.getElem?_eq_some_iff.1 hj).1
      have h1 := List.all_eq_true.1 (List.all_eq_true.1 hok1 j (List.mem_range.2 hjl)) i (List.mem_range.2 hij)
      rw [hi, hj] at h1
      simp only [Bool.or_eq_true, Bool.and_eq_true] at h1
      rcases h1 with h1 | h1
      · exact .inl h1
      · exact .inr ⟨fun x hx => disjB_spec h1.1 hx, fun x hx => disjB_spec h1.2 hx⟩
    have hqdone : ∀ listed : Array Bool, listed.size = arr.size → (q < infos.length → listed.getD q true = true) → listed.getD q true = true := by
      intro listed hsz h
      rcases hqn with h1 | h1
      · exact h h1
      · have : ¬ q < listed.size := by omega
        simp [Array.getD, this]
    have hgi : ∀ (i : Nat) f k k0 k1, infos[i]? = some (f, k, k0, k1) → i ≠ q → (k0 = true ∨ ((ancs [] (ops.map (·.2))).getD i 0).testBit q = true) ∧ (k1 = true ∨ ((ancs [] (ops.map (·.2))).getD q 0).testBit i = true) := by
      intro i f k k0 k1 h hne
      have h1 := List.all_eq_true.1 hflags i (List.mem_range.2 (List.getElem?_eq_some_iff.1 h).1)
      rw [h] at h1
      simp only [Bool.or_eq_true, Bool.and_eq_true] at h1
      rcases h1 with h1 | h1
      · exact absurd (Nat.eq_of_beq_eq_true h1) hne
      · exact h1
    have key : ∀ (fuel : Nat) (listed : Array Bool) (a : Act) (w : World) (S : Snap) (L : Nat → Option Nat), listed.size = arr.size → Closed (ops.map (·.2)) (fun k => listed.getD k true) →
        (∀ j, infos.length ≤ j → j < arr.size → listed.getD j true = false) → (List.range arr.size).countP (fun k => !listed.getD k true) ≤ fuel →
        Sat C (updL env (wsel (fun k => listed.getD k true) 0 Ws)) (Hs (listed.getD q true)) D a w S L → wpAnyIn (Fw r) 0 P .any arr (PostC C Q) fuel listed a w := by
      intro fuel
      induction fuel with
      | zero =>
        intro listed a w S L hsz hcl hno hct hs
        have hall : ∀ k, k < arr.size → listed.getD k true = true := by
          intro k hk
          have h0 : (List.range arr.size).countP (fun k => !listed.getD k true) = 0 := by omega
          have := List.countP_eq_zero.1 h0 k (List.mem_range.2 hk)
          simpa using this
        have hml : infos.length = arr.size := by
          rcases Nat.lt_or_ge infos.length arr.size with h | h
          · have := hno infos.length (Nat.le_refl _) h
            rw [hall _ h] at this; cases this
          · omega
        rw [wsel_all (fun k hk => by rw [Nat.zero_add]; exact hall k (by omega)), ← f4, hqdone listed hsz (fun h => hall q (by omega))] at hs
        exact hd.seq 0 infos.length listed a w hsz (Nat.le_refl _) (by omega) (fun k hk => ⟨fun _ => by omega, fun _ => hall k hk⟩) (by omega) (hrest a w S L hs)
      | succ fuel ih =>
        intro listed a w S L hsz hcl hno hct hs
        by_cases hpre : ∀ k, k < infos.length → listed.getD k true = true
        · rw [wsel_all (fun k hk => by rw [Nat.zero_add]; exact hpre k (by omega)), ← f4, hqdone listed hsz (fun h => hpre q h)] at hs
          refine hd.seq (fuel + 1) infos.length listed a w hsz (Nat.le_refl _) (by omega) (fun k hk => ⟨fun hh => ?_, fun hh => hpre k hh⟩) ?_ (hrest a w S L hs)
          · rcases Nat.lt_or_ge k infos.length with h | h
            · exact h
            · rw [hno k h hk] at hh; cases hh
          · have : arr.size - infos.length ≤ (List.range arr.size).countP (fun k => !listed.getD k true) := by
              have e : List.range arr.size = List.range infos.length ++ List.range' infos.length (arr.size - infos.length) := by
                rw [List.range_eq_range', List.range_eq_range']
                have := List.range'_append_1 (s := 0) (m := infos.length) (n := arr.size - infos.length)
                rw [Nat.zero_add] at this
                rw [this]; congr 1; omega
              rw [e, List.countP_append]
              have : (List.range' infos.length (arr.size - infos.length)).countP (fun k => !listed.getD k true) = arr.size - infos.length := by
                rw [List.countP_eq_length.2]
                · simp
                · intro k hk
                  have := List.mem_range'_1.1 hk
                  simp [hno k this.1 (by omega)]
              omega
            omega
        · -- the first one that is not done is ready
          have hex : ∃ k, k < infos.length ∧ listed.getD k true = false ∧ ∀ i, i < k → listed.getD i true = true := by
            have : ∀ n, (∀ k, k < n → listed.getD k true = true) ∨ ∃ k, k < n ∧ listed.getD k true = false ∧ ∀ i, i < k → listed.getD i true = true := by
              intro n
              induction n with
              | zero => exact .inl (by intro k hk; omega)
              | succ n ihn =>
                rcases ihn with h | ⟨k, h1, h2, h3⟩
                · cases hb : listed.getD n true with
                  | true => exact .inl (fun k hk => by
                      rcases Nat.lt_or_ge k n with hh | hh
                      · exact h k hh
                      · have : k = n := by omega
                        subst this; exact hb)
                  | false => exact .inr ⟨n, by omega, hb, h⟩
                · exact .inr ⟨k, by omega, h2, h3⟩
            rcases this infos.length with h | h
            · exact absurd h hpre
            · exact h
          obtain ⟨k0, hk0, hf0, hb0⟩ := hex
          have hr0 := hd.isReady hsz (j := k0) (by omega) hf0 hb0
          refine ⟨fun hr => (by rw [hr] at hr0; cases hr0), fun i hi => ?_⟩
          obtain ⟨hin, hfi, p, hp, hpall⟩ := hd.ready hi
          have him : i < infos.length := by
            rcases Nat.lt_or_ge i infos.length with h | h
            · exact h
            · have := hd.rest hcl hin h hp hpall (i := k0) (by omega)
              simp only [hf0] at this; cases this
          obtain ⟨fi, ki, k0, k1, hinf0⟩ : ∃ fi ki k0 k1, infos[i]? = some (fi, ki, k0, k1) := ⟨_, _, _, _, List.getElem?_eq_getElem him⟩
          have hinf := hfk _ _ _ _ _ hinf0
          obtain ⟨W, l, pr, hW, hop', hq, hqc, rfl, hsubk, hdst⟩ := f5 i fi ki k0 k1 hinf0
          rw [Nat.zero_add] at hq hqc
          have hmi : Match1 P N arr i l := by
            obtain ⟨l', h1, h2⟩ := hml.get (k := i) (i := i) (by simp [hin])
            rw [← hl1, List.getElem?_map, hop'] at h1
            simp only [Option.map_some, Option.some.injEq] at h1
            subst h1; exact h2
          have hsubenv : ∀ t, only fi (updL env (Ws.take i).flatten) t = .any ∨ only fi (updL env (Ws.take i).flatten) t = updL env (wsel (fun k => listed.getD k true) 0 Ws) t := by
            intro t
            by_cases hany : only fi (updL env (Ws.take i).flatten) t = .any
            · exact .inl hany
            · obtain ⟨htf, he⟩ := only_in hany
              refine .inr ?_
              rw [he]
              have e0 : (Ws.take i).flatten = wsel (fun k => decide (k < 0 + i)) 0 Ws := wsel_take.symm
              rw [e0]
              refine wsel_congr rfl (fun k W' hk => ?_)
              simp only [Nat.zero_add]
              have hkl : k < infos.length := by
                have := (List.getElem?_eq_some_iff.1 hk).1
                omega
              obtain ⟨fk, kk, c0, c1, hinfk0⟩ : ∃ fk kk c0 c1, infos[k]? = some (fk, kk, c0, c1) := ⟨_, _, _, _, List.getElem?_eq_getElem hkl⟩
              have hinfk' := hfk _ _ _ _ _ hinfk0
              obtain ⟨Wk, _, _, hWk, _, _, _, rfl, _, _⟩ := f5 k fk kk c0 c1 hinfk0
              rw [hk] at hWk; cases hWk
              rcases Nat.lt_trichotomy k i with hki | hki | hki
              · rcases pairs k i fk _ fi _ hki hinfk' hinf with h1 | h1
                · have := (hcl.add hp hpall).anc (i := k) (j := i) (by simp) h1
                  simp only [Bool.or_eq_true] at this
                  rcases this with h | h
                  · exact .inl (by simp [hki, h])
                  · have := Nat.eq_of_beq_eq_true h; omega
                · exact .inr (fun hx => h1.1 t hx htf)
              · subst hki; exact .inl (by simp [hfi])
              · rcases pairs i k fi _ fk _ hki hinf hinfk' with h1 | h1
                · left
                  have hnlt : ¬ k < i := by omega
                  simp only [hnlt, decide_false]
                  cases hb : listed.getD k true with
                  | false => rfl
                  | true =>
                    have := hcl.anc (i := i) (j := k) hb h1
                    simp only [hfi] at this; cases this
                · exact .inr (fun hx => h1.2 t hx htf)
          have hK : ∀ a' w' S' L', Sat C (updL (updL env (wsel (fun k => listed.getD k true) 0 Ws)) W) (Hs ((listed.setIfInBounds i true).getD q true)) D a' w' S' L' → wpAnyIn (Fw r) 0 P .any arr (PostC C Q) fuel (listed.setIfInBounds i true) a' w' := by
            intro a' w' S' L' hs'
            have e1 : (fun k => (listed.setIfInBounds i true).getD k true) = (fun k => listed.getD k true || Nat.beq k (0 + i)) := by
              funext k; rw [getD_set (by omega), Nat.zero_add]
            refine ih (listed.setIfInBounds i true) a' w' S' L' (by simpa using hsz) ?_ ?_ ?_ ?_
            · rw [e1]; simp only [Nat.zero_add]; exact hcl.add hp hpall
            · intro j h1 h2
              rw [getD_set (by omega), hno j h1 h2, Bool.false_or]
              cases hb : Nat.beq j i with
              | false => rfl
              | true => have := Nat.eq_of_beq_eq_true hb; omega
            · have := countP_lt (p := fun k => !listed.getD k true) (q := fun k => !(listed.setIfInBounds i true).getD k true) (i := i) (l := List.range arr.size)
                (by intro x hx; rw [getD_set (by omega)] at hx; simp only [Bool.not_eq_true', Bool.or_eq_false_iff] at hx ⊢; exact hx.1) (List.mem_range.2 hin) (by simp only [hfi, Bool.not_false])
                (by simp only [getD_set (show i < listed.size by omega), Nat.beq_refl, Bool.or_true, Bool.not_true])
              omega
            · rw [e1, wsel_add hW (by rw [Nat.zero_add]; exact hfi)]
              · exact hs'
              · intro k W' hk hik hkl x hx hx'
                have hkl' : k < infos.length := by
                  have := (List.getElem?_eq_some_iff.1 hk).1
                  omega
                obtain ⟨fk, kk, c0, c1, hinfk0⟩ : ∃ fk kk c0 c1, infos[k]? = some (fk, kk, c0, c1) := ⟨_, _, _, _, List.getElem?_eq_getElem hkl'⟩
                have hinfk' := hfk _ _ _ _ _ hinfk0
                obtain ⟨Wk, _, _, hWk, _, _, _, rfl, hsk, _⟩ := f5 k fk kk c0 c1 hinfk0
                rw [hk] at hWk; cases hWk
                rcases pairs i k fi _ fk _ hik hinf hinfk' with h1 | h1
                · rw [Nat.zero_add] at hkl
                  have := hcl.anc (i := i) (j := k) hkl h1
                  simp only [hfi] at this; cases this
                · exact h1.1 x hx (subB_spec hsk hx')
          by_cases hiq : i = q
          · subst hiq
            rw [hfi] at hs
            refine QChg.wpOpIn hmi (hqc rfl) hdst hsubenv hN hs (fun a' w' S' L' hs' => hK a' w' S' L' ?_)
            rw [getD_set (by omega), Nat.beq_refl, Bool.or_true]
            exact hs'
          · have hsame : (listed.setIfInBounds i true).getD q true = listed.getD q true := by
              rw [getD_set (by omega)]
              cases hb : Nat.beq q i with
              | false => rw [Bool.or_false]
              | true => exact absurd (Nat.eq_of_beq_eq_true hb).symm hiq
            obtain ⟨g0, g1⟩ := hgi i fi _ k0 k1 hinf0 hiq
            obtain ⟨q0, q1⟩ := hq hiq
            rw [hsame] at hK
            cases hb : listed.getD q true with
            | false =>
              rw [hb] at hs hK
              rcases g0 with g0 | g0
              · exact QStep.wpOpIn hmi (q0 g0) hdst hsubenv hN hs hK
              · have := (hcl.add hp hpall).anc (i := q) (j := i) (by simp) g0
                simp only [hb, Bool.false_or] at this
                exact absurd (Nat.eq_of_beq_eq_true this).symm hiq
            | true =>
              rw [hb] at hs hK
              rcases g1 with g1 | g1
              · exact QStep.wpOpIn hmi (q1 g1) hdst hsubenv hN hs hK
              · have := hcl.anc (i := i) (j := q) hb g1
                simp only [hfi] at this; cases this
    refine key arr.size (Array.replicate arr.size false) a { w with drawn := w.drawn + 1 } S L (by simp) ?_ ?_ ?_ ?_
    · intro k p hk hs' q hq
      have hkn : k < arr.size := by
        have := (List.getElem?_eq_some_iff.1 hk).1
        simp only [List.length_map] at this; omega
      simp [Array.getD_eq_getD_getElem?, hkn] at hs'
    · intro j _ hj
      simp [Array.getD_eq_getD_getElem?, hj]
    · have := List.countP_le_length (p := fun k => !(Array.replicate arr.size false).getD k true) (l := List.range arr.size)
      simpa using this
    · have e : updL env (wsel (fun k => (Array.replicate arr.size false).getD k true) 0 Ws) = env := by
        funext t
        have : updL env (wsel (fun k => (Array.replicate arr.size false).getD k true) 0 Ws) t = updL env (wsel (fun _ => false) 0 Ws) t := by
          refine wsel_congr rfl (fun k W hk => .inl ?_)
          have hkl : k < arr.size := by
            have := (List.getElem?_eq_some_iff.1 hk).1
            omega
          simp [Array.getD_eq_getD_getElem?, hkl]
        rw [this, wsel_none (fun _ => rfl)]
        rfl
      have e2 : (Array.replicate arr.size false).getD q true = decide (ops.length ≤ q) := by
        rw [hon]
        by_cases hqs : q < arr.size
        · have : ¬ arr.size ≤ q := by omega
          simp [Array.getD_eq_getD_getElem?, hqs]
        · have : arr.size ≤ q := by omega
          simp [Array.getD_eq_getD_getElem?, hqs, this]
      rw [e, e2, ← hH]
      exact hs.grow ⟨rfl, rfl, rfl, Nat.le_refl _, fun _ _ => rfl⟩
  | _ => cases hop
theorem LWp.dops {ops : List (LOper × List Nat)} {infos : List (List Nat × List Nat)} {suf : List LOper} {env' : Env} (hm : P.follows .mixedOrders = true) (hch : DCh P r N H D env ops infos suf env')
    (hok : okDraw (ops.map (·.2)) infos = true) (hk : WOps P r N suf Q env' H D) : LWp P r N (.dops ops) Q env H D := by
  have e : fkOf (infos.map fun x => (x.1, x.2, true, true)) = infos := by
    simp [fkOf, Function.comp_def]
  refine LWp.dopsG (Hs := fun _ => H) (q := ops.length) hm (hch.toG 0 (by omega)) (by rw [e]; exact hok) ?_ (.inr (Nat.le_refl _)) rfl hk
  refine List.all_eq_true.2 (fun i hi => ?_)
  have hi' := List.mem_range.1 hi
  rw [List.length_map] at hi'
  rw [List.getElem?_map, List.getElem?_eq_getElem hi']
  simp
theorem LWp.dopsC {H1 : Heap} {q : Nat} {ops : List (LOper × List Nat)} {infos : List InfoG} {suf : List LOper} {env' : Env} (hm : P.follows .mixedOrders = true) (hch : DChG P r N (fun b => bif b then H1 else H) q D 0 env ops infos suf env')
    (hok : okDrawG (ops.map (·.2)) q infos = true) (hk : WOps P r N suf Q env' H1 D) : LWp P r N (.dops ops) Q env H D := by
  simp only [okDrawG, Bool.and_eq_true] at hok
  obtain ⟨⟨h1, h2⟩, h3⟩ := hok
  have h3' : q < infos.length := Nat.lt_of_lt_of_le (Nat.lt_succ_self q) (Nat.le_of_ble_eq_true h3)
  obtain ⟨Ws, hf⟩ := hch.facts
  refine LWp.dopsG hm hch h1 h2 (.inl h3') ?_ hk
  have : ¬ ops.length ≤ q := by have := hf.le; omega
  simp [this]
end
end Go.Px

namespace Go.Px
section
variable {env : Env} {H : Heap} {D : List Nat} {C : Ctx} {a : Act} {w : World} {S : Snap} {L : Nat → Option Nat}
theorem Sat.shareB (hs : Sat C env H D a w S L) {t T : Nat} {cs : List AV} (ht : env t = .lbox T cs) : ∃ b, Sat C (upd env t (.po b 0)) ((b, .cells T cs) :: H) D a w S (Lset L t none) := by
  have hr := hs.env t
  rw [ht] at hr
  simp only [RepT] at hr
  obtain ⟨g, hb, hy, ho⟩ := hr
  refine ⟨g, ?_⟩
  have h1 := hs.reenv (t := t) (p := .po g 0) rfl (by simp only [Rep]; exact hy)
  refine { h1 with heap := ?_, nodup := ?_, lin := ?_ }
  · intro e he
    rcases List.mem_cons.1 he with rfl | he
    · exact ho
    · exact hs.heap e he
  · simp only [List.cons_append, List.map_cons, List.nodup_cons]
    exact ⟨hs.lin t g hb, hs.nodup⟩
  · intro u b e
    simp only [List.cons_append, List.map_cons, List.mem_cons, not_or]
    refine ⟨fun hbg => ?_, h1.lin u b e⟩
    simp only [Lset] at e
    split at e
    · cases e
    · rename_i hu; subst hbg; exact hu (hs.linj u t b e hb)
theorem Sat.unshareB (hs : Sat C env H D a w S L) {i t b T : Nat} {cs : List AV} (ht : env t = .po b 0) (hH : H[i]? = some (b, .cells T cs)) :
    Sat C (upd env t (.lbox T cs)) (H.eraseIdx i) D a w S (Lset L t (some b)) := by
  have hy := hs.rep ht rfl
  simp only [Rep] at hy
  refine (hs.drop i).reenvL ?_ ?_
  · simp only [RepT]
    exact ⟨b, rfl, hy, hs.at_ hH⟩
  · intro g e
    cases e
    refine ⟨fun hm => ?_, fun u _ e => hs.lin u b e ?_⟩
    · obtain ⟨e, he, hb⟩ := List.mem_map.1 hm
      exact hs.apart_erase hH e he hb
    · simp only [List.map_append, List.mem_append, List.mem_map]
      exact .inl ⟨(b, _), List.mem_of_getElem? hH, rfl⟩
theorem Ent.unshareB {i t b T : Nat} {cs : List AV} (ht : env t = .po b 0) (hH : H[i]? = some (b, .cells T cs)) : Ent env H D (upd env t (.lbox T cs)) (H.eraseIdx i) D :=
  fun _ _ _ _ _ hs => ⟨_, _, Snap.Le.refl _, hs.unshareB ht hH⟩
theorem Ent.freezeLbox {t T : Nat} {cs : List AV} (ht : env t = .lbox T cs) : Ent env H D (upd env t (.pi cs)) H D := by
  intro C a w S L hs
  obtain ⟨b, h⟩ := hs.shareB ht
  obtain ⟨S', L', hle, h'⟩ := Ent.freezeBox (H := (b, .cells T cs) :: H) (D := D) (i := 0) t (upd_same _ _ _) rfl C a w S _ h
  rw [upd_upd] at h'
  exact ⟨S', L', hle, h'⟩
end
section
variable {P : Program} {r : Option Nat} {N : Nat} {env : Env} {H : Heap} {D : List Nat} {dst : Option Nat} {K : Env → Heap → List Nat → Prop} {Q : Post}
theorem LWp.shareB {x : LCode} {t T : Nat} {cs : List AV} (ht : env t = .lbox T cs) (h1 : ∀ b, LWp P r N x Q (upd env t (.po b 0)) ((b, .cells T cs) :: H) D) : LWp P r N x Q env H D :=
  fun c hc C a w S L hN hs => by obtain ⟨b, h⟩ := hs.shareB ht; exact h1 b c hc C a w S _ hN h
theorem WOps.shareB {ls : List LOper} {t T : Nat} {cs : List AV} (ht : env t = .lbox T cs) (h1 : ∀ b, WOps P r N ls Q (upd env t (.po b 0)) ((b, .cells T cs) :: H) D) : WOps P r N ls Q env H D :=
  fun arr is hm C a w S L hN hs => by obtain ⟨b, h⟩ := hs.shareB ht; exact h1 b arr is hm C a w S _ hN h
theorem Op1.shareB {l : LOp} {t T : Nat} {cs : List AV} (ht : env t = .lbox T cs) (h1 : ∀ b, Op1 P r N l dst (upd env t (.po b 0)) ((b, .cells T cs) :: H) D K) : Op1 P r N l dst env H D K :=
  fun o hdst hd hlo C a w S L hN hs next Q hnext => by
    obtain ⟨b, h⟩ := hs.shareB ht
    exact h1 b o hdst hd hlo C a w S _ hN h next Q hnext
theorem Op1.pre {l : LOp} {env' : Env} {H' : Heap} {D' : List Nat} (h : Ent env H D env' H' D') (h1 : Op1 P r N l dst env' H' D' K) : Op1 P r N l dst env H D K :=
  fun o hdst hd hlo C a w S L hN hs next Q hnext => by
    obtain ⟨S', L', hle, h⟩ := h C a w S L hs
    exact h1 o hdst hd hlo C a w S' _ hN h next Q (fun e h d y w' S'' L'' k hs' hle' => hnext e h d y w' S'' L'' k hs' (hle.trans hle'))
theorem upd_comm {t d : Nat} (h : t ≠ d) (p q : AV) : upd (upd env t p) d q = upd (upd env d q) t p := by
  funext i
  by_cases h1 : i = t
  · subst h1; rw [upd_other _ _ h, upd_same, upd_same]
  · by_cases h2 : i = d
    · subst h2; rw [upd_same, upd_other _ _ (Ne.symm h), upd_same]
    · rw [upd_other _ _ h2, upd_other _ _ h1, upd_other _ _ h1, upd_other _ _ h2]
theorem upd_self {t : Nat} {p : AV} (h : env t = p) : upd env t p = env := by
  funext i
  by_cases h1 : i = t
  · subst h1; rw [upd_same, h]
  · rw [upd_other _ _ h1]
theorem Op1.boxL {T d : Nat} {x : Operand} {q : AV} (hx : evO env x = q) (hq : q.isAggOrCell = true) (hqc : (cellsAV q).all AV.isCell = true)
    (k : K (upd env d (.lbox T (cellsAV q))) H D) : Op1 P r N (.box T x) (some d) env H D K :=
  Op1.ent (Op1.box hx hq hqc (fun b => ⟨_, _, _, Ent.unshareB (i := 0) (t := d) (upd_same _ _ _) rfl, by rw [upd_upd]; exact k⟩))
theorem Op1.allocL {T d : Nat} {z : List Value} (hz : z.all Value.oneCell' = true) (k : K (upd env d (.lbox T (z.map .v))) H D) : Op1 P r N (.alloc T z) (some d) env H D K :=
  Op1.ent (Op1.alloc hz (fun b => ⟨_, _, _, Ent.unshareB (i := 0) (t := d) (upd_same _ _ _) rfl, by rw [upd_upd]; exact k⟩))
theorem Op1.allocI {T d : Nat} {z : List Value} (hz : z.all Value.oneCell' = true) (k : K (upd env d (.pi (z.map .v))) H D) : Op1 P r N (.alloc T z) (some d) env H D K :=
  Op1.ent (Op1.alloc hz (fun b => ⟨_, _, _, Ent.freezeBox (i := 0) d (upd_same _ _ _) rfl, by rw [upd_upd]; exact k⟩))
theorem Op1.loadB {T T' d t : Nat} {n : Option Nat} {cs : List AV} {p : AV} (ht : env t = .lbox T' cs) (hp : loadAV n cs = some p) (hdt : d ≠ t) (k : K (upd env d p) H D) : Op1 P r N (.load T (.tmp t) n) (some d) env H D K :=
  Op1.shareB ht (fun b => Op1.ent (Op1.loadO (x := .tmp t) (i := 0) (off := 0) (upd_same _ _ _) rfl (by simpa using hp)
    ⟨_, _, _, Ent.unshareB (i := 0) (t := t) (T := T') (cs := cs) (by simp only [updO]; rw [upd_other _ _ (Ne.symm hdt), upd_same]) rfl, by
      simp only [updO, List.eraseIdx_cons_zero]
      rw [upd_comm (Ne.symm hdt), upd_upd, upd_self (t := t) (by rw [upd_other _ _ (Ne.symm hdt), ht])]
      exact k⟩))
theorem Op1.storeB {T T' t n : Nat} {y : Operand} {cs : List AV} {q : AV} (ht : env t = .lbox T' cs) (hy : ∀ p, evO (upd env t p) y = q) (hq : q.isAggOrCell = true) (hql : (cellsAV q).length = n) (hqc : (cellsAV q).all AV.isCell = true)
    (hfit : n ≤ cs.length) (k : K (upd env t (.lbox T' (setSeg cs 0 (cellsAV q)))) H D) : Op1 P r N (.store T (.tmp t) y n) none env H D K :=
  Op1.shareB ht (fun b => Op1.ent (Op1.storeO (x := .tmp t) (i := 0) (off := 0) (upd_same _ _ _) rfl (hy _) hq hql hqc (by omega)
    ⟨_, _, _, Ent.unshareB (i := 0) (t := t) (T := T') (cs := setSeg cs 0 (cellsAV q)) (upd_same _ _ _) rfl, by
      simp only [updO, List.set_cons_zero, List.eraseIdx_cons_zero]
      rw [upd_upd]
      exact k⟩))
theorem Op1.bsliceI {T d n E kk : Nat} {ps : List (Nat × Operand)} {z : List Value} {q : List AV} (hr : buildAV (rep n (z.map .v)) (ps.map fun p => (p.1 * kk, kk, evO env p.2)) = some q)
    (hq : q.all AV.isCell = true) (k : K (upd env d (.sl kk (chunk kk n q))) H D) : Op1 P r N (.bslice T n ps E kk z) (some d) env H D K :=
  Op1.ent (Op1.bslice hr hq ⟨_, _, _, Ent.freezeLin (t := d) (upd_same _ _ _), by rw [upd_upd]; exact k⟩)
theorem Op1.appendNil {T ty d t E kk bytes : Nat} {y : Operand} {z : List Value} {ys : List (List AV)} (ht : env t = .nil) (hy : ∀ p, AsSl kk (evO (upd env t p) y) ys)
    (hb : ys.length * bytes ≤ 140737488355328) (hn : ys.length ≤ 9223372036854775807)
    (k : K (upd (upd env t .any) d (.lin E kk ys)) H D) : Op1 P r N (.append T ty (.tmp t) y E kk bytes z) (some d) env H D K :=
  Op1.pre (Ent.nilLin E kk ht) (Op1.append (es := []) (upd_same _ _ _) (hy _) (by simpa using hb) (by simpa using hn) (by rw [upd_upd]; exact k))
theorem Op1.msliceL {T d E kk bytes : Nat} {l c : Operand} {kl kc : IntKind} {z : List Value} (n : Nat) {nl nc : Int} (hl : evO env l = .v (.int kl nl)) (hc : evO env c = .v (.int kc nc)) (hnl : nl = n) (hnc : nc = n)
    (hb : bytes * n ≤ 281474976710656) (h63 : n ≤ 9223372036854775807) (hz1 : z.all Value.oneCell' = true)
    (k : K (upd env d (.lin E kk (List.replicate n (z.map AV.v)))) H D) : Op1 P r N (.mslice T l c E kk bytes z) (some d) env H D K :=
  Op1.ent (Op1.mslice n hl hc hnl hnc hb h63 hz1 (fun b => ⟨_, _, _, Ent.unshare (i := 0) (t := d) (upd_same _ _ _) rfl, by rw [upd_upd]; exact k⟩))
end
end Go.Px

namespace Go.Px
def Snap.ofWorld (w : World) : Snap := ⟨fun b o => w.cell? ⟨b, o, none⟩, fun b => match w.heap[b]? with | some (.map e c) => some (e, c) | _ => none⟩
theorem Snap.ofWorld_in (w : World) : (Snap.ofWorld w).In w :=
  ⟨fun _ _ _ h => h, fun b m h => by
    simp only [Snap.ofWorld] at h
    split at h
    · rename_i e c he; cases h; exact he
    · cases h⟩
theorem Snap.In.le_ofWorld {S : Snap} {w : World} (h : S.In w) : S.Le (Snap.ofWorld w) :=
  ⟨fun b o v e => h.cell b o v e, fun b m e => by simp only [Snap.ofWorld, h.map b m e]⟩
mutual
def AV.flat : AV → Bool
  | .any | .v _ | .nil => true
  | .agg l => AV.flatL l
  | .tup l => AV.flatL l
  | .ifc _ x => x.flat
  | _ => false
def AV.flatL : List AV → Bool
  | [] => true
  | a :: l => a.flat && AV.flatL l
end
def AV.flatT : AV → Bool
  | .lin _ _ es => AV.flatL es.flatten
  | p => p.flat
mutual
theorem Rep.flat {S T : Snap} : ∀ (a : AV) (y : Value), a.flat = true → Rep S a y → Rep T a y
  | .any, _, _, _ => by simp only [Rep]
  | .v x, y, _, r => by simp only [Rep] at r ⊢; exact r
  | .nil, y, _, r => by simp only [Rep] at r ⊢; exact r
  | .agg l, y, h, r => by simp only [Rep, AV.flat] at r h ⊢; obtain ⟨cs, e, r⟩ := r; exact ⟨cs, e, RepL.flat l cs h r⟩
  | .tup l, y, h, r => by simp only [Rep, AV.flat] at r h ⊢; obtain ⟨cs, e, r⟩ := r; exact ⟨cs, e, RepL.flat l cs h r⟩
  | .ifc t x, y, h, r => by simp only [Rep, AV.flat] at r h ⊢; obtain ⟨c, e, r⟩ := r; exact ⟨c, e, Rep.flat x c h r⟩
  | .sl _ _, _, h, _ => by simp [AV.flat] at h
  | .pi _, _, h, _ => by simp [AV.flat] at h
  | .po _ _, _, h, _ => by simp [AV.flat] at h
  | .so _ _ _, _, h, _ => by simp [AV.flat] at h
  | .lin _ _ _, _, h, _ => by simp [AV.flat] at h
  | .lbox _ _, _, h, _ => by simp [AV.flat] at h
  | .linV _ _ _ _ _, _, h, _ => by simp [AV.flat] at h
  | .lmap _ _, _, h, _ => by simp [AV.flat] at h
  | .mi _, _, h, _ => by simp [AV.flat] at h
  | .mo _, _, h, _ => by simp [AV.flat] at h
  | .fn _ _ _, _, h, _ => by simp [AV.flat] at h
theorem RepL.flat {S T : Snap} : ∀ (l : List AV) (cs : List Value), AV.flatL l = true → RepL S l cs → RepL T l cs
  | [], cs, _, r => by simp only [RepL] at r ⊢; exact r
  | a :: l, cs, h, r => by
    simp only [RepL, AV.flatL, Bool.and_eq_true] at r h ⊢
    obtain ⟨c, cs', e, r1, r2⟩ := r
    exact ⟨c, cs', e, Rep.flat a c h.1 r1, RepL.flat l cs' h.2 r2⟩
end
theorem RepT.flat {B : Nat → Prop} {S T : Snap} {w : World} {g : Option Nat} {p : AV} {y : Value} (h : p.flatT = true) (r : RepT B S w g p y) (hb : ∀ b, g = some b → ¬ T.has b) : RepT B T w g p y := by
  cases p
  case lin E k es =>
    simp only [RepT] at r ⊢
    rcases r with r | ⟨b, cap, hg, hy, ho⟩
    · exact .inl r
    · obtain ⟨o, e, cur, h1, h2, h3, h4, h5, h6, h7⟩ := ho.holds
      exact .inr ⟨b, cap, hg, hy, ho.base, hb b hg, o, e, cur, h1, h2, h3, h4, h5, RepL.flat _ _ h h6, h7⟩
  case lbox => simp [AV.flatT, AV.flat] at h
  case linV => simp [AV.flatT, AV.flat] at h
  case lmap => simp [AV.flatT, AV.flat] at h
  all_goals
    have r' := RepT.rep (by simp [AV.isLin]) r
    rw [r'.1]
    exact RepT.of_rep (by simp [AV.isLin]) (Rep.flat _ _ h r'.2)
section
variable {P : Program} {r : Option Nat} {N : Nat} {env : Env} {H : Heap} {D : List Nat} {dst : Option Nat} {K : Env → Heap → List Nat → Prop} {Q : Post}
theorem Op1.eqB {neg : Bool} {T : TypeId} {x y : Operand} {a b : Bool} (hx : evO env x = .v (.bool a)) (hy : evO env y = .v (.bool b)) (hT : P.underlying T = some .bool) (k : K (updO env dst (.v (.bool (match neg with | true => a != b | false => a == b)))) H D) :
    Op1 P r N (.eqT neg T x y) dst env H D K :=
  Op1.pure rfl (by simp) (fun o hlo C ac w S L hs => ⟨.bool (match neg with | true => a != b | false => a == b), by
    cases hlo with
    | eqT hop h =>
      have he : (Op.equal T (.bool a) (.bool b)).run P w = .ok (a == b) w := by
        show (Op.equalIn (9999 + 1) T (.bool a) (.bool b)).run P w = _
        rw [Op.equalIn]
        simp only [Sem.run_bind, underlying, run_program, Result.andThen_ok, hT, Sem.run_pure]
      cases neg <;> simp [execOp, hop, hs.int hx, hs.int hy, eqGuard, binOp, he, bne], by cases neg <;> simp [Rep]⟩) k
def BorA (env : Env) (H : Heap) (p q : AV) : Prop := ∀ (C : Ctx) (D : List Nat) (a : Act) (w : World) (S : Snap) (L : Nat → Option Nat), Sat C env H D a w S L → ∀ v, Rep S p v → Rep (Snap.ofWorld w) q v
theorem BorA.refl (p : AV) : BorA env H p p := fun _ _ _ _ _ _ hs _v r => Rep.mono hs.sin.le_ofWorld _ _ r
theorem BorA.nilSl (k : Nat) : BorA env H .nil (.sl k []) := fun _ _ _ _ _ _ _ v r => by simp only [Rep] at r ⊢; exact .inl ⟨⟨_, r⟩, trivial⟩
theorem own_repE {A : Nat → Prop} {S : Snap} {w : World} (hin : S.In w) {b T k cap : Nat} {es : List (List AV)} (h : Own A S w b (.arr T k cap es)) : es.length ≤ cap ∧ cap ≤ maxLen ∧ RepE (Snap.ofWorld w) k es b 0 := by
  obtain ⟨cur, hrow, hc1, hc2, hc3, hk, hr, h1⟩ := h.arr
  refine ⟨hc2, hc3, repE_of_row (RepL.mono hin.le_ofWorld _ _ hr) hk h1 ?_⟩
  intro j c hj
  show w.cell? ⟨b, 0 + j, none⟩ = some c
  rw [Nat.zero_add, cell_of_row w b _ _ _ _ hrow]
  rw [List.getElem?_take] at hj
  split at hj
  · simpa using hj
  · cases hj
theorem BorA.so {i b T k cap : Nat} {es : List (List AV)} (n : Nat) (hn : n = es.length) (hH : H[i]? = some (b, .arr T k cap es)) : BorA env H (.so b n cap) (.sl k es) := by
  intro C D a w S L hs v r
  simp only [Rep] at r ⊢
  obtain ⟨h1, h2, h3⟩ := own_repE hs.sin (hs.at_ hH)
  exact .inr ⟨b, 0, cap, by rw [r, hn], h1, h2, h3⟩
theorem BorA.linV {u T k cap n : Nat} {es : List (List AV)} {ad : Option Addr} (hu : env u = .linV T k es ad cap) (hn : n = es.length) : BorA env H (.v (.slice ad n cap)) (.sl k es) := by
  intro C D a w S L hs v r
  simp only [Rep] at r ⊢
  have hr := hs.env u
  rw [hu] at hr
  simp only [RepT] at hr
  obtain ⟨h0, h⟩ := hr
  rcases h with ⟨hy, he, _⟩ | ⟨g, cap', _, hy, ho⟩
  · left
    refine ⟨⟨none, ?_⟩, he⟩
    rw [r, hn, ← h0, hy]
  · right
    obtain ⟨h1, h2, h3⟩ := own_repE hs.sin ho
    exact ⟨g, 0, cap', by rw [r, hn, ← h0, hy], h1, h2, h3⟩
theorem BorA.po {i b T off : Nat} {cs : List AV} (hH : H[i]? = some (b, .cells T cs)) : BorA env H (.po b off) (.pi (cs.drop off)) := by
  intro C D a w S L hs v r
  simp only [Rep] at r ⊢
  obtain ⟨l, hrow, hr, h1⟩ := (hs.at_ hH).row
  refine ⟨b, off, r, ?_⟩
  have h0 : RepC (Snap.ofWorld w) cs b 0 := repC_of_row (RepL.mono hs.sin.le_ofWorld _ _ hr) h1 (fun j c hj => by
    show w.cell? ⟨b, 0 + j, none⟩ = some c
    rw [Nat.zero_add, cell_of_row w b _ _ _ _ hrow]; simpa using hj)
  simpa using h0.drop off
theorem borL {C : Ctx} {a : Act} {w : World} {S : Snap} {L : Nat → Option Nat} (hs : Sat C env H D a w S L) : ∀ {ps qs : List AV} {vs : List Value}, All2 (BorA env H) ps qs → RepL S ps vs → RepL (Snap.ofWorld w) qs vs
  | [], [], vs, _, r => by simp only [RepL] at r ⊢; exact r
  | p :: ps, q :: qs, vs, h, r => by
    simp only [RepL] at r ⊢
    obtain ⟨c, cs', e, r1, r2⟩ := r
    exact ⟨c, cs', e, h.1 C D a w S L hs c r1, borL hs h.2 r2⟩
  | [], _ :: _, _, h, _ => h.elim
  | _ :: _, [], _, h, _ => h.elim
theorem Sat.calledB {C : Ctx} {a : Act} {w : World} {S : Snap} {L : Nat → Option Nat} (hs : Sat C env H D a w S L) (hd : ∀ d, dst = some d → d < C.N) {w' : World} {S' : Snap} {g : Option Nat} {p : AV} {v : Value} (hp : p.flatT = true)
    (hb : RowKit.Below w.heap.size w w') (hr : RepT (fun b => w.heap.size ≤ b) S' w' g p v) : ∃ L', Sat C (updO env dst p) H D (a.put dst v) w' S L' := by
  have h1 := hs.grow hb
  have hr1 : RepT C.A S w' g p v := (hr.flat hp (fun b e hh => by
    subst e
    have := hr.base_of.1
    have := hs.sin.lt hh
    omega)).base_mono (fun b hb' => hs.fresh hb')
  cases dst with
  | none => exact ⟨L, h1⟩
  | some d =>
    refine ⟨_, h1.putLin (d := d) (g := g) (Nat.lt_of_lt_of_le (hd d rfl) hs.size) hr1 ?_⟩
    intro b e
    subst e
    have hbA := hr.base_of.1
    refine ⟨fun hm => absurd (hs.own_lt hm) (by omega), fun t _ e => absurd (hs.L_lt e) (by omega)⟩
theorem Op1.callB {f : FuncId} {args : List Operand} {ty : TypeId} {ps qs : List AV} {res : AV} (hev : Ev P f qs res) (hps : args.map (evO env) = ps) (hlin : ps.all (fun p => !p.isLin) = true) (hbor : All2 (BorA env H) ps qs) (hflat : res.flatT = true)
    (k : K (updO env dst res) H D) : Op1 P r N (.call f args ty) dst env H D K := by
  intro o hdst hd hlo C a w S L hN hs next Q hnext
  have hl0 : ∀ p ∈ ps, p.isLin = false := fun p hp => by simpa using List.all_eq_true.1 hlin p hp
  have hargs := borL hs hbor (hs.repOs args hps hl0)
  cases hlo with
  | call hop hf hn hb =>
    rename_i xs ts fn
    refine Oper.wpIn_enter (.call hop hf hn hb) (by simp) (f := f) (args := xs.map a.eval) (w' := w) ?_ ?_
    · simp [execOp, hop, resolve, Deferred.ofValue, Act.eval, invoke, run_callFunc hev.1]
    · have h := hev.2 (Snap.ofWorld w) w _ (Snap.ofWorld_in w) hargs
      have e : (List.map a.eval xs.toList).toArray = xs.map a.eval := by rw [← Array.toList_map]
      rw [e] at h
      refine h.mono ?_
      rintro e w' ⟨v, S', g, rfl, hle, hin, hnew, hbel, hr⟩
      obtain ⟨L', hs'⟩ := hs.calledB (dst := dst) (fun d e => hN ▸ hd d e) hflat hbel hr
      exact ⟨v, rfl, by rw [hdst]; exact hnext _ _ _ _ _ _ _ k hs' (Snap.Le.refl _)⟩
theorem Op1.callvB {x : Operand} {args : List Operand} {ty : TypeId} {f : FuncId} {first caps ps qs : List AV} {res : AV} (hx : evO env x = .fn (.func f) first caps) (hev : Ev P f qs res) (hps : args.map (evO env) = ps) (hlin : ps.all (fun p => !p.isLin) = true)
    (hbor : All2 (BorA env H) (first ++ ps ++ caps) qs) (hflat : res.flatT = true) (k : K (updO env dst res) H D) : Op1 P r N (.callv x args ty) dst env H D K := by
  intro o hdst hd hlo C a w S L hN hs next Q hnext
  have hl0 : ∀ p ∈ ps, p.isLin = false := fun p hp => by simpa using List.all_eq_true.1 hlin p hp
  have hxr := hs.repO x hx rfl
  simp only [Rep] at hxr
  obtain ⟨fs, cs, hxv, hfr, hcr⟩ := hxr
  have hargs := borL hs hbor ((hfr.append (hs.repOs args hps hl0)).append hcr)
  cases hlo with
  | callv hop =>
    rename_i xs ts
    refine Oper.wpIn_enter (.callv hop) (by simp) (f := f) (args := (fs ++ xs.toList.map a.eval ++ cs).toArray) (w' := w) ?_ ?_
    · simp [execOp, hop, resolve, Deferred.ofValue, hxv, invoke, run_callFunc hev.1]
    · refine (hev.2 (Snap.ofWorld w) w _ (Snap.ofWorld_in w) hargs).mono ?_
      rintro e w' ⟨v, S', g, rfl, hle, hin, hnew, hbel, hr⟩
      obtain ⟨L', hs'⟩ := hs.calledB (dst := dst) (fun d e => hN ▸ hd d e) hflat hbel hr
      exact ⟨v, rfl, by rw [hdst]; exact hnext _ _ _ _ _ _ _ k hs' (Snap.Le.refl _)⟩
theorem Ent.transfer {t u T kk cap n : Nat} {es : List (List AV)} {ad : Option Addr} (_htu : t ≠ u) (hu : env u = .linV T kk es ad cap) (ht : env t = .v (.slice ad n cap)) (hn : n = es.length) : Ent env H D (upd (upd env u .any) t (.lin T kk es)) H D := by
  intro C a w S L hs
  have hr := hs.env u
  rw [hu] at hr
  simp only [RepT] at hr
  obtain ⟨h0, h1⟩ := hr
  have hv := hs.rep ht rfl
  simp only [Rep] at hv
  have e : a.tmps.getD t undef = a.tmps.getD u undef := by rw [hv, h0, hn]
  have hs1 := hs.reenv (t := u) (p := .any) rfl (by simp [Rep])
  refine ⟨S, _, Snap.Le.refl S, hs1.reenvL (t := t) (g := L u) (by rw [e]; simp only [RepT]; exact h1) ?_⟩
  intro b eb
  refine ⟨hs.lin u b eb, fun v hv' e' => ?_⟩
  simp only [Lset] at e'
  split at e'
  · cases e'
  · rename_i hvu
    exact hvu (hs.linj v u b e' eb)
theorem Op1.movV {t d T kk cap : Nat} {es : List (List AV)} {ad : Option Addr} (ht : env t = .linV T kk es ad cap) (k : K (upd env d (.v (.slice ad es.length cap))) H D) : Op1 P r N (.mov (.tmp t)) (some d) env H D K := by
  intro o hdst hd hlo C a w S L hN hs next Q hnext
  have hr := hs.env t
  rw [ht] at hr
  simp only [RepT] at hr
  have hs2 := hs.put (d := d) (Nat.lt_of_lt_of_le (hN ▸ hd d rfl) hs.size) (p := .v (.slice ad es.length cap)) (y := a.tmps.getD t undef) rfl (by simp only [Rep]; exact hr.1)
  exact Oper.wpIn_value hlo (by simp) (run_mov hlo) (by rw [hdst]; exact hnext _ _ _ _ _ _ _ k hs2 (Snap.Le.refl _))
theorem Op1.appendV {T ty d t u E kk bytes cap n : Nat} {y : Operand} {z : List Value} {es ys : List (List AV)} {ad : Option Addr} (htu : t ≠ u) (hu : env u = .linV E kk es ad cap) (ht : env t = .v (.slice ad n cap)) (hn : n = es.length)
    (hy : AsSl kk (evO (upd (upd env u .any) t (.lin E kk es)) y) ys) (hb : (es.length + ys.length) * bytes ≤ 140737488355328) (hm : es.length + ys.length ≤ 9223372036854775807)
    (k : K (upd (upd (upd env u .any) t .any) d (.lin E kk (es ++ ys))) H D) : Op1 P r N (.append T ty (.tmp t) y E kk bytes z) (some d) env H D K :=
  Op1.pre (Ent.transfer htu hu ht hn) (Op1.append (upd_same _ _ _) hy hb hm (by rw [upd_upd]; exact k))
end
end Go.Px

namespace Go.Px
theorem RepE.drop {S : Snap} {k : Nat} : ∀ {es : List (List AV)} {b o : Nat} (n : Nat), RepE S k es b o → RepE S k (es.drop n) b (o + n * k)
  | es, b, o, 0, h => by simpa using h
  | [], b, o, n + 1, h => by simp [RepE]
  | e :: es, b, o, n + 1, h => by
    simp only [RepE] at h
    rw [List.drop_succ_cons, show o + (n + 1) * k = o + k + n * k by rw [Nat.add_mul]; omega]
    exact RepE.drop n h.2.2
theorem RepE.take {S : Snap} {k : Nat} : ∀ {es : List (List AV)} {b o : Nat} (n : Nat), RepE S k es b o → RepE S k (es.take n) b o
  | es, b, o, 0, h => by simp [RepE]
  | [], b, o, n + 1, h => by simp [RepE]
  | e :: es, b, o, n + 1, h => by
    simp only [RepE] at h
    simp only [List.take_succ_cons, RepE]
    exact ⟨h.1, h.2.1, RepE.take n h.2.2⟩
theorem RepC.takeC {S : Snap} : ∀ {cs : List AV} {b o : Nat} (n : Nat), RepC S cs b o → RepC S (cs.take n) b o
  | cs, b, o, 0, h => by simp [RepC]
  | [], b, o, n + 1, h => by simp [RepC]
  | e :: es, b, o, n + 1, h => by
    simp only [RepC] at h
    simp only [List.take_succ_cons, RepC]
    exact ⟨h.1, RepC.takeC n h.2⟩
theorem repE_chunk {S : Snap} {k b : Nat} : ∀ {n : Nat} {cs : List AV} {o : Nat}, n * k ≤ cs.length → RepC S cs b o → RepE S k (chunk k n cs) b o
  | 0, cs, o, _, h => by simp [chunk, RepE]
  | n + 1, cs, o, hl, h => by
    rw [Nat.add_mul] at hl
    simp only [chunk, RepE]
    exact ⟨by rw [List.length_take]; omega, h.takeC k, repE_chunk (by rw [List.length_drop]; omega) (h.drop k)⟩
def segE {α : Type} (es : List α) (lo hi : Option Nat) : List α := match lo, hi with
  | none, none => es
  | some l, none => es.drop l
  | none, some h => es.take h
  | some l, some h => (es.take h).drop l
def BndO (env : Env) : Option Operand → Option Nat → Prop
  | none, m => m = none
  | some x, m => ∃ kd n k, evO env x = .v (.int kd n) ∧ n = ((k : Nat) : Int) ∧ m = some k
section
variable {P : Program} {r : Option Nat} {N : Nat} {env : Env} {H : Heap} {D : List Nat} {dst : Option Nat} {K : Env → Heap → List Nat → Prop}
theorem run_sliceBounds (P : Program) (w : World) (isS : Bool) (len cap l h : Nat) (lo hi : Option Value) (h1 : (lo = none ∧ l = 0) ∨ ∃ kd, lo = some (.int kd l)) (h2 : (hi = none ∧ h = len) ∨ ∃ kd, hi = some (.int kd h))
    (h3 : l ≤ h) (h4 : h ≤ cap) : (Instr.sliceBounds isS len cap lo hi none).run P w = .ok (l, h, cap) w := by
  rcases h1 with ⟨rfl, rfl⟩ | ⟨kd, rfl⟩ <;> rcases h2 with ⟨rfl, rfl⟩ | ⟨kd', rfl⟩ <;> cases isS <;>
    simp [Instr.sliceBounds, Instr.sliceBound, asIntOf, h3, h4]
theorem BndO.val {C : Ctx} {a : Act} {w : World} {S : Snap} {L : Nat → Option Nat} (hs : Sat C env H D a w S L) {x : Option Operand} {m : Option Nat} (h : BndO env x m) (d : Nat) :
    (x.map a.eval = none ∧ m.getD d = d) ∨ ∃ kd, x.map a.eval = some (.int kd (m.getD d : Nat)) := by
  cases x with
  | none => simp only [BndO] at h; subst h; exact .inl ⟨rfl, rfl⟩
  | some x =>
    obtain ⟨kd, n, k, e, rfl, rfl⟩ := h
    refine .inr ⟨kd, ?_⟩
    simp [hs.int e]
theorem segE_rep {S : Snap} {k : Nat} {es : List (List AV)} {b o : Nat} (h : RepE S k es b o) (lo hi : Option Nat) (h1 : lo.getD 0 ≤ hi.getD es.length) (h2 : hi.getD es.length ≤ es.length) :
    RepE S k (segE es lo hi) b (o + lo.getD 0 * k) ∧ (segE es lo hi).length = hi.getD es.length - lo.getD 0 := by
  cases lo <;> cases hi <;> simp only [segE, Option.getD] at *
  · exact ⟨by simpa using h, by simp⟩
  · exact ⟨by simpa using h.take _, by simp; omega⟩
  · exact ⟨h.drop _, by simp⟩
  · exact ⟨(h.take _).drop _, by simp; omega⟩
theorem Op1.sliceE {T : TypeId} {x : Operand} {lo hi : Option Operand} {kk : Nat} {es : List (List AV)} (l h : Option Nat) (hx : evO env x = .sl kk es) (hlo : BndO env lo l) (hhi : BndO env hi h)
    (h1 : l.getD 0 ≤ h.getD es.length) (h2 : h.getD es.length ≤ es.length) (k : K (updO env dst (.sl kk (segE es l h))) H D) : Op1 P r N (.sliceE T x lo hi none kk) dst env H D K :=
  Op1.pure rfl (by simp) (fun o hl C a w S L hs => by
    have hr := hs.repO x hx rfl
    simp only [Rep] at hr
    have hlv := hlo.val hs 0
    have hhv := hhi.val hs es.length
    cases hl with
    | sliceE hop hT hj =>
      rename_i E j
      rcases hr with ⟨⟨ady, hv⟩, rfl⟩ | ⟨b, off, cap, hv, hc, hm, hE⟩
      · have hb := run_sliceBounds P w true 0 0 (l.getD 0) (h.getD 0) (lo.map a.eval) (hi.map a.eval) hlv hhv h1 (by simpa using h2)
        have e1 : h.getD ([] : List (List AV)).length = 0 := by simp only [List.length_nil] at h2 ⊢; omega
        simp only [List.length_nil] at e1 h1
        have e2 : l.getD 0 = 0 := by omega
        refine ⟨.slice ady 0 0, ?_, by simp only [Rep]; exact .inl ⟨⟨_, rfl⟩, by cases l <;> cases h <;> simp [segE]⟩⟩
        simp [execOp, hop, Instr.sliceAt, Instr.slice, underlying, hT, hv, hb, e1, e2, sizeOf, typeInfo, hj]
      · obtain ⟨hE', hlen⟩ := segE_rep hE l h h1 h2
        have hb := run_sliceBounds P w true es.length cap (l.getD 0) (h.getD es.length) (lo.map a.eval) (hi.map a.eval) hlv hhv h1 (by omega)
        by_cases hcl : cap = l.getD 0
        · have hz : segE es l h = [] := List.eq_nil_of_length_eq_zero (by omega)
          refine ⟨.slice (some ⟨b, off, none⟩) (h.getD es.length - l.getD 0) (cap - l.getD 0), ?_, by
            simp only [Rep, hz]; exact .inr ⟨b, off, cap - l.getD 0, by rw [show h.getD es.length - l.getD 0 = 0 by omega]; rfl, by simp, by omega, by simp [RepE]⟩⟩
          rw [hcl] at hb ⊢
          simp [execOp, hop, Instr.sliceAt, Instr.slice, underlying, hT, hv, hb, hcl, sizeOf, typeInfo, hj]
        · refine ⟨.slice (some ⟨b, off + l.getD 0 * j.size, none⟩) (h.getD es.length - l.getD 0) (cap - l.getD 0), ?_, by
            simp only [Rep]; exact .inr ⟨b, _, cap - l.getD 0, by rw [hlen], by omega, by omega, hE'⟩⟩
          simp [execOp, hop, Instr.sliceAt, Instr.slice, underlying, hT, hv, hb, hcl, sizeOf, typeInfo, hj, addr_add]) k
theorem Op1.sliceS {T : TypeId} {x : Operand} {lo hi : Option Operand} {s : ByteArray} (l h : Option Nat) (hx : evO env x = .v (.string s)) (hlo : BndO env lo l) (hhi : BndO env hi h)
    (h1 : l.getD 0 ≤ h.getD s.size) (h2 : h.getD s.size ≤ s.size) (k : K (updO env dst (.v (.string (s.extract (l.getD 0) (h.getD s.size))))) H D) : Op1 P r N (.sliceS T x lo hi none) dst env H D K :=
  Op1.pure rfl (by simp) (fun o hl C a w S L hs => by
    have hlv := hlo.val hs 0
    have hhv := hhi.val hs s.size
    cases hl with
    | sliceS hop hT =>
      have hb := run_sliceBounds P w false s.size s.size (l.getD 0) (h.getD s.size) (lo.map a.eval) (hi.map a.eval) hlv hhv h1 h2
      exact ⟨.string (s.extract (l.getD 0) (h.getD s.size)), by simp [execOp, hop, Instr.sliceAt, Instr.slice, underlying, hT, hs.int hx, hb], by simp [Rep]⟩) k
theorem Op1.sliceA {T : TypeId} {x : Operand} {lo hi : Option Operand} {n kk : Nat} {cs : List AV} (l h : Option Nat) (hx : evO env x = .pi cs) (hlo : BndO env lo l) (hhi : BndO env hi h)
    (hn : n * kk ≤ cs.length) (hmx : n ≤ maxLen) (h1 : l.getD 0 ≤ h.getD n) (h2 : h.getD n ≤ n) (k : K (updO env dst (.sl kk (segE (chunk kk n cs) l h))) H D) : Op1 P r N (.sliceA T x lo hi none n kk) dst env H D K :=
  Op1.pure rfl (by simp) (fun o hl C a w S L hs => by
    have hr := hs.repO x hx rfl
    simp only [Rep] at hr
    obtain ⟨b, off, hv, hC⟩ := hr
    have hlv := hlo.val hs 0
    have hhv := hhi.val hs n
    have hE := repE_chunk hn hC
    obtain ⟨hE', hlen⟩ := segE_rep hE l h (by rw [chunk_length]; exact h1) (by rw [chunk_length]; exact h2)
    rw [chunk_length] at hlen
    cases hl with
    | sliceA hop hT hj =>
      rename_i E j
      have hb := run_sliceBounds P w false n n (l.getD 0) (h.getD n) (lo.map a.eval) (hi.map a.eval) hlv hhv h1 h2
      by_cases hcl : n = l.getD 0
      · have hz : segE (chunk j.size n cs) l h = [] := List.eq_nil_of_length_eq_zero (by omega)
        refine ⟨.slice (some ⟨b, off, none⟩) (h.getD n - l.getD 0) (n - l.getD 0), ?_, by
          simp only [Rep, hz]; exact .inr ⟨b, off, n - l.getD 0, by rw [show h.getD n - l.getD 0 = 0 by omega]; rfl, by simp, by omega, by simp [RepE]⟩⟩
        rw [← hcl] at hb ⊢
        simp [execOp, hop, Instr.sliceAt, Instr.sureAddr, underlying, hT, hv, hb, sizeOf, typeInfo, hj]
      · refine ⟨.slice (some ⟨b, off + l.getD 0 * j.size, none⟩) (h.getD n - l.getD 0) (n - l.getD 0), ?_, by
          simp only [Rep]; exact .inr ⟨b, _, n - l.getD 0, by rw [hlen], by omega, by omega, hE'⟩⟩
        simp [execOp, hop, Instr.sliceAt, Instr.sureAddr, underlying, hT, hv, hb, hcl, sizeOf, typeInfo, hj, addr_add]) k
theorem Op1.sliceAo {T : TypeId} {x : Operand} {n kk b off : Nat} (hx : evO env x = .po b off) (k : K (updO env dst (.v (.slice (some ⟨b, off, none⟩) n n))) H D) : Op1 P r N (.sliceA T x none none none n kk) dst env H D K :=
  Op1.pure rfl (by simp) (fun o hl C a w S L hs => by
    have hr := hs.repO x hx rfl
    simp only [Rep] at hr
    cases hl with
    | sliceA hop hT hj =>
      rename_i E j
      have hb := run_sliceBounds P w false n n 0 n none none (.inl ⟨rfl, rfl⟩) (.inl ⟨rfl, rfl⟩) (Nat.zero_le _) (Nat.le_refl _)
      refine ⟨.slice (some ⟨b, off, none⟩) n n, ?_, by simp [Rep]⟩
      simp [execOp, hop, Instr.sliceAt, Instr.sureAddr, underlying, hT, hr, hb, sizeOf, typeInfo, hj, addr_add]) k
theorem Op1.concat {T : TypeId} {x y : Operand} {s t : ByteArray} (hx : evO env x = .v (.string s)) (hy : evO env y = .v (.string t)) (h : s.size + t.size ≤ 9223372036854775807)
    (k : K (updO env dst (.v (.string (s ++ t)))) H D) : Op1 P r N (.bin .add T x y) dst env H D K :=
  Op1.pure rfl (by simp) (fun o hlo C a w S L hs => ⟨.string (s ++ t), by
    have h1 : ¬ (((s.size + t.size : Nat) : Int) > IntKind.i64.max) := by
      have : IntKind.i64.max = 9223372036854775807 := rfl
      rw [this]; omega
    rw [run_bin_str hlo (hs.int hx) (hs.int hy)]
    simp only [Op.stringOp, if_neg h1]
    rfl, by simp [Rep]⟩) k
theorem Op1.min2 {ts : List TypeId} {ty : TypeId} {x y : Operand} {kd : IntKind} {a b : Int} (hx : evO env x = .v (.int kd a)) (hy : evO env y = .v (.int kd b)) (k : K (updO env dst (.v (.int kd (min a b)))) H D) :
    Op1 P r N (.min ts ty [x, y]) dst env H D K :=
  Op1.pure rfl (by simp) (fun o hlo C ac w S L hs => ⟨.int kd (min a b), by
    generalize hxs : [x, y] = xs at hlo
    cases hlo with
    | min hop =>
      rw [arr2 hxs.symm] at hop
      have e : min a b = if b < a then b else a := by
        rw [Int.min_def]; split <;> split <;> omega
      simp [execOp, hop, resolve, invoke, builtin, Builtin.min_, Builtin.min2, hs.int hx, hs.int hy, e], by simp [Rep]⟩) k
theorem Op1.max2 {ts : List TypeId} {ty : TypeId} {x y : Operand} {kd : IntKind} {a b : Int} (hx : evO env x = .v (.int kd a)) (hy : evO env y = .v (.int kd b)) (k : K (updO env dst (.v (.int kd (max a b)))) H D) :
    Op1 P r N (.max ts ty [x, y]) dst env H D K :=
  Op1.pure rfl (by simp) (fun o hlo C ac w S L hs => ⟨.int kd (max a b), by
    generalize hxs : [x, y] = xs at hlo
    cases hlo with
    | max hop =>
      rw [arr2 hxs.symm] at hop
      have e : max a b = if b > a then b else a := by
        rw [Int.max_def]; split <;> split <;> omega
      simp [execOp, hop, resolve, invoke, builtin, Builtin.max_, Builtin.max2, hs.int hx, hs.int hy, e], by simp [Rep]⟩) k
theorem Op1.iaddrP {T : TypeId} {x i : Operand} {len kk : Nat} {cs e : List AV} {kd : IntKind} {n : Int} (m : Nat) (hx : evO env x = .pi cs) (hi : evO env i = .v (.int kd n)) (hn : n = m) (hm : m < len) (he : e <+: cs.drop (m * kk))
    (k : K (updO env dst (.pi e)) H D) : Op1 P r N (.iaddrA T x i len kk) dst env H D K :=
  Op1.pure rfl (by simp) (fun o hlo C ac w S L hs => by
    have hr := hs.repO x hx rfl
    simp only [Rep] at hr
    obtain ⟨b, off, hv, hC⟩ := hr
    have hC2 := (hC.drop (m * kk)).takeC e.length
    rw [← List.prefix_iff_eq_take.1 he] at hC2
    refine ⟨.pointer (some ⟨b, off + m * kk, none⟩), ?_, by simp only [Rep]; exact ⟨b, _, rfl, hC2⟩⟩
    cases hlo with
    | iaddrA hop hT h1 hj =>
      subst hn
      simp [execOp, hop, Instr.indexAt, hs.int hi, asIntOf, underlying, hT, hv, Instr.sureAddr, hm, sizeOf, typeInfo, hj, addr_add]) k
theorem Op1.indexA {T : TypeId} {x i : Operand} {len kk : Nat} {g : Option Nat} {l : List AV} {p : AV} {kd : IntKind} {nn : Int} (n : Nat) (hx : evO env x = .agg l) (hi : evO env i = .v (.int kd nn)) (hn : nn = n) (hlt : n < len) (hp : fieldAV g (n * kk) l = some p) (hpl : p.isLin = false)
    (k : K (updO env dst p) H D) : Op1 P r N (.indexA T x i len kk g) dst env H D K := by
  subst hn
  refine Op1.pure hpl (by simp) (fun o hlo C a w S L hs => ?_) k
  have hr := hs.repO x hx rfl
  simp only [Rep] at hr
  obtain ⟨cs, hv, hc⟩ := hr
  have hiv := hs.int hi
  cases hlo with
  | indexA hop hT hj hg =>
    rename_i E j
    cases g with
    | none =>
      simp only [fieldAV] at hp
      obtain ⟨c, hc1, hc2⟩ := hc.get hp
      refine ⟨c, ?_, hc2⟩
      have := run_part (P := P) (w := w) hg (cs := cs.toArray) (y := c) (by simpa using hc1)
      simp [execOp, hop, Instr.index, hiv, asIntOf, underlying, hT, hv, hlt, sizeOf, typeInfo, hj, this]
    | some m =>
      simp only [fieldAV] at hp
      split at hp
      · cases hp
        refine ⟨.agg ((cs.drop (n * j.size)).take m).toArray, ?_, by simp only [Rep]; exact ⟨_, rfl, (hc.drop _).take m⟩⟩
        have := run_part (P := P) (w := w) hg (cs := cs.toArray) (off := n * j.size) (y := .agg ((cs.drop (n * j.size)).take m).toArray) (by simp [List.extract_toArray, List.extract_eq_take_drop])
        simp [execOp, hop, Instr.index, hiv, asIntOf, underlying, hT, hv, hlt, sizeOf, typeInfo, hj, this]
      · cases hp
end
end Go.Px

namespace Go.Px
inductive Hint where
  | cells (e : List AV)
  | byte (c : UInt8)
  | ret (res : AV)
  | retS (qs : List AV) (res : AV)
  | at (i : Nat)
  | elt (i m f : Nat) (e : List AV)
  | ice
  | lin
  | val (p : AV)
  | op (p : AV)
  | retB (qs : List AV) (res : AV)
  | own (u : Nat)
  | foot (fs : List Nat)
  | stO (i : Nat)
  | stE (i m f : Nat) (e : List AV)
  | pre (e : List AV)
  | atv (i : Nat) (p : AV)
  | idx (p : AV)
abbrev XR := Option (List (Nat × AV) × List Hint × Option Prop)
abbrev obP : Option Prop → Prop
  | none => True
  | some p => p
def val1 (dst : Option Nat) (p : AV) (hs : List Hint) (ob : Option Prop) : XR := match dst with
  | some d => some ([(d, p)], hs, ob)
  | none => some ([], hs, ob)
def valS (dst : Option Nat) (p : AV) (hs : List Hint) (ob : Option Prop) : XR := match dst with
  | some d => some ([(d, p)], hs, ob)
  | none => none
def valN (dst : Option Nat) (p : AV) (hs : List Hint) (ob : Option Prop) : XR := bif p.isLin then none else val1 dst p hs ob
def arith (op : BinOp) (a b : Int) : Option (Int × Prop) := match op with
  | .add => some (a + b, -9223372036854775808 ≤ a + b ∧ a + b ≤ 9223372036854775807)
  | .sub => some (a - b, -9223372036854775808 ≤ a - b ∧ a - b ≤ 9223372036854775807)
  | .mul => some (a * b, -9223372036854775808 ≤ a * b ∧ a * b ≤ 9223372036854775807)
  | .quo => some (a / b, 0 ≤ a ∧ a ≤ 9223372036854775807 ∧ 0 < b)
  | .rem => some (a % b, 0 ≤ a ∧ 0 < b)
  | .and => some (((a.toNat &&& b.toNat : Nat) : Int), (0 ≤ a ∧ a < 9223372036854775808) ∧ (0 ≤ b ∧ b < 9223372036854775808))
  | .or => some (((a.toNat ||| b.toNat : Nat) : Int), (0 ≤ a ∧ a < 9223372036854775808) ∧ (0 ≤ b ∧ b < 9223372036854775808))
  | .andNot => some ((((BitVec.ofNat 64 a.toNat &&& ~~~ BitVec.ofNat 64 b.toNat).toNat : Nat) : Int), (0 ≤ a ∧ a < 9223372036854775808) ∧ 0 ≤ b)
  | .shl => some (a * 2 ^ b.toNat, 0 ≤ a ∧ 0 ≤ b ∧ b < 64 ∧ a * 2 ^ b.toNat < 9223372036854775808)
  | .shr => some (a / 2 ^ b.toNat, 0 ≤ a ∧ 0 ≤ b ∧ b < 64)
  | _ => none
def xPlain (op : LOp) (dst : Option Nat) (env : Env) (hs : List Hint) : XR := match pstep op env with
  | some p => valN dst p hs none
  | none => none
def xBin (op : BinOp) (T : TypeId) (x y : Operand) (dst : Option Nat) (env : Env) (hs : List Hint) : XR := match evO env x, evO env y with
  | .v (.int .i64 a), .v (.int .i64 b) => match arith op a b with
    | some (n, ob) => val1 dst (.v (.int .i64 n)) hs (some ob)
    | none => xPlain (.bin op T x y) dst env hs
  | .v (.string s), .v (.string t) => match op with
    | .add => val1 dst (.v (.string (s ++ t))) hs (some (s.size + t.size ≤ 9223372036854775807))
    | _ => xPlain (.bin op T x y) dst env hs
  | _, _ => xPlain (.bin op T x y) dst env hs
def xPick (gs : Nat → Option Bool) (c x y : Operand) (dst : Option Nat) (env : Env) (hs : List Hint) : XR := match c with
  | .tmp t => match gs t, env t with
    | some b, .v (.bool e) => valN dst (evO env (match b with | true => x | false => y)) hs (some (e = b))
    | _, _ => none
  | _ => none
def xToInt (kd : IntKind) (x : Operand) (dst : Option Nat) (env : Env) (hs : List Hint) : XR := match evO env x with
  | .v (.int _ n) => val1 dst (.v (.int kd n)) hs (some (kd.wrap n = n))
  | _ => none
def xIaddr (x i : Operand) (kk : Nat) (dst : Option Nat) (env : Env) (hs : List Hint) : XR := match evO env x, evO env i with
  | .sl k es, .v (.int _ n) => match hs with
    | .cells e :: hs => bif Nat.beq k kk then val1 dst (.pi e) hs (some (0 ≤ n ∧ es[n.toNat]? = some e)) else none
    | _ => none
  | .so b len _, .v (.int _ n) => val1 dst (.po b (n.toNat * kk)) hs (some (0 ≤ n ∧ n.toNat < len))
  | _, _ => none
def xIaddrA (x i : Operand) (len kk : Nat) (dst : Option Nat) (env : Env) (hs : List Hint) : XR := match evO env x, evO env i with
  | .pi cs, .v (.int _ n) => match hs with
    | .pre e :: hs' => val1 dst (.pi e) hs' (some ((0 ≤ n ∧ n.toNat < len) ∧ e <+: cs.drop (n.toNat * kk)))
    | _ => val1 dst (.pi (cs.drop (n.toNat * kk))) hs (some (0 ≤ n ∧ n.toNat < len))
  | .po b off, .v (.int _ n) => val1 dst (.po b (off + n.toNat * kk)) hs (some (0 ≤ n ∧ n.toNat < len))
  | _, _ => none
def xIndexA (T : TypeId) (x i : Operand) (len kk : Nat) (g : Option Nat) (dst : Option Nat) (env : Env) (hs : List Hint) : XR := match hs with
  | .idx p :: hs' => (match evO env x, evO env i with
    | .agg l, .v (.int _ n) => valN dst p hs' (some ((0 ≤ n ∧ n.toNat < len) ∧ fieldAV g (n.toNat * kk) l = some p))
    | _, _ => none)
  | _ => xPlain (.indexA T x i len kk g) dst env hs
def xIndexS (x i : Operand) (dst : Option Nat) (env : Env) (hs : List Hint) : XR := match evO env x, evO env i with
  | .v (.string s), .v (.int _ n) => match hs with
    | .byte c :: hs => val1 dst (.v (.int .u8 c.toNat)) hs (some (0 ≤ n ∧ s.data.toList[n.toNat]? = some c))
    | _ => none
  | _, _ => none
def notTmp (t : Nat) : Operand → Bool
  | .tmp u => !(Nat.beq u t)
  | _ => true
def xLoad (_T : TypeId) (x : Operand) (n : Option Nat) (dst : Option Nat) (H : Heap) (env : Env) (hs : List Hint) : XR := match evO env x with
  | .pi cs => match loadAV n cs with
    | some p => valN dst p hs none
    | none => none
  | .po b off => match hs with
    | .at i :: hs => match H[i]? with
      | some (b', .cells _ cs) => match loadAV n (cs.drop off) with
        | some p => val1 dst p hs (some (b' = b))
        | none => none
      | _ => none
    | .elt i m f e :: hs => match H[i]? with
      | some (b', .arr _ kk _ es) => match loadAV n (e.drop f) with
        | some p => val1 dst p hs (some (b' = b ∧ off = m * kk + f ∧ es[m]? = some e))
        | none => none
      | _ => none
    | .atv i p :: hs => match H[i]? with
      | some (b', .cells _ cs) => val1 dst p hs (some (b' = b ∧ loadAV n (cs.drop off) = some p))
      | _ => none
    | _ => none
  | .lbox _ cs => match loadAV n cs, dst with
    | some p, some d => bif notTmp d x then some ([(d, p)], hs, none) else none
    | _, _ => none
  | _ => none
def xStore (x y : Operand) (n : Nat) (dst : Option Nat) (env : Env) (hs : List Hint) : XR := match x, dst with
  | .tmp t, none => match env t with
    | .lbox T cs => bif notTmp t y then some ([(t, .lbox T (setSeg cs 0 (cellsAV (evO env y))))], hs, some <|
        (evO env y).isAggOrCell = true ∧ (cellsAV (evO env y)).length = n ∧ (cellsAV (evO env y)).all AV.isCell = true ∧ n ≤ cs.length) else none
    | _ => none
  | _, _ => none
def xBox (T : TypeId) (x : Operand) (dst : Option Nat) (env : Env) (hs : List Hint) : XR := match hs with
  | .ice :: hs => valS dst (.pi (cellsAV (evO env x))) hs (some ((evO env x).isAggOrCell = true ∧ (cellsAV (evO env x)).all AV.isCell = true))
  | .lin :: hs => valS dst (.lbox T (cellsAV (evO env x))) hs (some ((evO env x).isAggOrCell = true ∧ (cellsAV (evO env x)).all AV.isCell = true))
  | _ => none
def xAlloc (T : TypeId) (z : List Value) (dst : Option Nat) (hs : List Hint) : XR := match hs with
  | .ice :: hs => valS dst (.pi (z.map .v)) hs (some (z.all Value.oneCell' = true))
  | .lin :: hs => valS dst (.lbox T (z.map .v)) hs (some (z.all Value.oneCell' = true))
  | _ => none
def xBslice (n : Nat) (ps : List (Nat × Operand)) (E : TypeId) (kk : Nat) (z : List Value) (dst : Option Nat) (env : Env) (hs : List Hint) : XR :=
  match buildAV (rep n (z.map .v)) (ps.map fun p => (p.1 * kk, kk, evO env p.2)) with
  | some q => match hs with
    | .ice :: hs => valS dst (.sl kk (chunk kk n q)) hs (some (q.all AV.isCell = true))
    | .lin :: hs => valS dst (.lin E kk (chunk kk n q)) hs (some (q.all AV.isCell = true))
    | _ => none
  | none => none
def ysOf (kk : Nat) : AV → Option (List (List AV))
  | .sl k ys => bif Nat.beq k kk then some ys else none
  | .nil => some []
  | _ => none
def xAppendO (x y : Operand) (E kk bytes : Nat) (dst : Option Nat) (env : Env) (hs : List Hint) : XR := match x, dst with
  | .tmp t, some d => bif notTmp t y then (match ysOf kk (evO env y), env t with
    | some ys, .lin E' k' es => bif Nat.beq E' E && Nat.beq k' kk then
        some ([(t, .any), (d, .lin E kk (es ++ ys))], hs, some ((es.length + ys.length) * bytes ≤ 140737488355328 ∧ es.length + ys.length ≤ 9223372036854775807)) else none
    | some ys, .nil => some ([(t, .any), (d, .lin E kk ys)], hs, some (ys.length * bytes ≤ 140737488355328 ∧ ys.length ≤ 9223372036854775807))
    | _, _ => none) else none
  | _, _ => none
def xAppend (x y : Operand) (E kk bytes : Nat) (dst : Option Nat) (env : Env) (hs : List Hint) : XR := match hs with
  | .own u :: hs' => match x, dst with
    | .tmp t, some d => match env t, env u with
      | .v (.slice ad n cap), .linV E' k' es ad' cap' => bif Nat.beq E' E && (Nat.beq k' kk && (notTmp u y && (notTmp t y && !(Nat.beq t u)))) then (match ysOf kk (evO env y) with
        | some ys => some ([(u, .any), (t, .any), (d, .lin E kk (es ++ ys))], hs', some ((ad' = ad ∧ cap' = cap ∧ n = es.length) ∧ (es.length + ys.length) * bytes ≤ 140737488355328 ∧ es.length + ys.length ≤ 9223372036854775807))
        | none => none) else none
      | _, _ => none
    | _, _ => none
  | _ => xAppendO x y E kk bytes dst env hs
def xMslice (l c : Operand) (E kk bytes : Nat) (z : List Value) (dst : Option Nat) (env : Env) (hs : List Hint) : XR := match evO env l, evO env c with
  | .v (.int _ nl), .v (.int _ nc) => valS dst (.lin E kk (List.replicate nl.toNat (z.map AV.v))) hs (some (0 ≤ nl ∧ nc = nl ∧ bytes * nl.toNat ≤ 281474976710656 ∧ nl.toNat ≤ 9223372036854775807 ∧ z.all Value.oneCell' = true))
  | _, _ => none
def xMov (x : Operand) (dst : Option Nat) (env : Env) (hs : List Hint) : XR := match x, dst with
  | .tmp t, some d => match env t with
    | .lin T k es => bif Nat.beq t d then none else some ([(t, .any), (d, .lin T k es)], hs, none)
    | .linV _ _ es ad cap => some ([(d, .v (.slice ad es.length cap))], hs, none)
    | _ => xPlain (.mov x) dst env hs
  | _, _ => xPlain (.mov x) dst env hs
def noLin (ps : List AV) : Bool := ps.all fun p => !p.isLin
def xCall (P : Program) (H : Heap) (f : FuncId) (xs : List Operand) (dst : Option Nat) (env : Env) (hs : List Hint) : XR := match hs with
  | .ret res :: hs => bif noLin (xs.map (evO env)) then val1 dst res hs (some (Ev P f (xs.map (evO env)) res)) else none
  | .retS qs res :: hs => bif noLin (xs.map (evO env)) then val1 dst res hs (some (Ev P f qs res ∧ SubL (xs.map (evO env)) qs)) else none
  | .retB qs res :: hs => bif noLin (xs.map (evO env)) then val1 dst res hs (some (Ev P f qs res ∧ res.flatT = true ∧ All2 (BorA env H) (xs.map (evO env)) qs)) else none
  | _ => none
def xCallv (P : Program) (H : Heap) (x : Operand) (xs : List Operand) (dst : Option Nat) (env : Env) (hs : List Hint) : XR := match evO env x with
  | .fn (.func f) first caps => bif noLin (xs.map (evO env)) then (match hs with
    | .ret res :: hs => val1 dst res hs (some (Ev P f (first ++ xs.map (evO env) ++ caps) res))
    | .retS qs res :: hs => val1 dst res hs (some (Ev P f qs res ∧ SubL (first ++ xs.map (evO env) ++ caps) qs))
    | .retB qs res :: hs => val1 dst res hs (some (Ev P f qs res ∧ res.flatT = true ∧ All2 (BorA env H) (first ++ xs.map (evO env) ++ caps) qs))
    | _ => none) else none
  | _ => none
def xMin (isMin : Bool) (xs : List Operand) (dst : Option Nat) (env : Env) (hs : List Hint) : XR := match xs with
  | [x, y] => match evO env x, evO env y with
    | .v (.int .i64 a), .v (.int .i64 b) => val1 dst (.v (.int .i64 (match isMin with | true => min a b | false => max a b))) hs none
    | _, _ => none
  | _ => none
def bndV (env : Env) : Option Operand → Option (Option Nat × Prop)
  | none => some (none, True)
  | some x => match evO env x with
    | .v (.int _ n) => some (some n.toNat, 0 ≤ n)
    | _ => none
def xSliceS (x : Operand) (lo hi : Option Operand) (dst : Option Nat) (env : Env) (hs : List Hint) : XR := match evO env x, bndV env lo, bndV env hi with
  | .v (.string s), some (l, o1), some (h, o2) => val1 dst (.v (.string (s.extract (l.getD 0) (h.getD s.size)))) hs (some ((o1 ∧ o2) ∧ l.getD 0 ≤ h.getD s.size ∧ h.getD s.size ≤ s.size))
  | _, _, _ => none
def xSliceE (x : Operand) (lo hi : Option Operand) (kk : Nat) (dst : Option Nat) (env : Env) (hs : List Hint) : XR := match evO env x, bndV env lo, bndV env hi with
  | .sl k es, some (l, o1), some (h, o2) => bif Nat.beq k kk then val1 dst (.sl kk (segE es l h)) hs (some ((o1 ∧ o2) ∧ l.getD 0 ≤ h.getD es.length ∧ h.getD es.length ≤ es.length)) else none
  | _, _, _ => none
def xSliceA (x : Operand) (lo hi : Option Operand) (n kk : Nat) (dst : Option Nat) (env : Env) (hs : List Hint) : XR := match evO env x, bndV env lo, bndV env hi with
  | .pi cs, some (l, o1), some (h, o2) => val1 dst (.sl kk (segE (chunk kk n cs) l h)) hs (some ((o1 ∧ o2) ∧ (n * kk ≤ cs.length ∧ n ≤ maxLen) ∧ l.getD 0 ≤ h.getD n ∧ h.getD n ≤ n))
  | .po b off, some (none, _), some (none, _) => match lo, hi with
    | none, none => val1 dst (.v (.slice (some ⟨b, off, none⟩) n n)) hs none
    | _, _ => none
  | _, _, _ => none
def xEqB (neg : Bool) (T : TypeId) (x y : Operand) (P : Program) (dst : Option Nat) (env : Env) (hs : List Hint) : XR := match evO env x, evO env y with
  | .v (.bool a), .v (.bool b) => val1 dst (.v (.bool (match neg with | true => a != b | false => a == b))) hs (some (P.underlying T = some .bool))
  | _, _ => xPlain (.eqT neg T x y) dst env hs
def xop (P : Program) (gs : Nat → Option Bool) (H : Heap) (hs : List Hint) (dst : Option Nat) (op : LOp) (env : Env) : XR := match op with
  | .pick c x y => xPick gs c x y dst env hs
  | .bin op T x y => xBin op T x y dst env hs
  | .eqT neg T x y => xEqB neg T x y P dst env hs
  | .toInt kd _ _ x => xToInt kd x dst env hs
  | .iaddr _ x i kk => xIaddr x i kk dst env hs
  | .iaddrA _ x i len kk => xIaddrA x i len kk dst env hs
  | .indexS _ x i => xIndexS x i dst env hs
  | .indexA T x i len kk g => xIndexA T x i len kk g dst env hs
  | .load T x n => xLoad T x n dst H env hs
  | .store _ x y n => xStore x y n dst env hs
  | .box T x => xBox T x dst env hs
  | .alloc T z => xAlloc T z dst hs
  | .bslice _ n ps E kk z => xBslice n ps E kk z dst env hs
  | .append _ _ x y E kk bytes _ => xAppend x y E kk bytes dst env hs
  | .mslice _ l c E kk bytes z => xMslice l c E kk bytes z dst env hs
  | .mov x => xMov x dst env hs
  | .call f xs _ => xCall P H f xs dst env hs
  | .callv x xs _ => xCallv P H x xs dst env hs
  | .min _ _ xs => xMin true xs dst env hs
  | .max _ _ xs => xMin false xs dst env hs
  | .sliceS _ x lo hi none => xSliceS x lo hi dst env hs
  | .sliceE _ x lo hi none kk => xSliceE x lo hi kk dst env hs
  | .sliceA _ x lo hi none n kk => xSliceA x lo hi n kk dst env hs
  | op => xPlain op dst env hs
section
variable {P : Program} {r : Option Nat} {N : Nat} {env : Env} {H : Heap} {D : List Nat} {dst : Option Nat} {W : List (Nat × AV)} {hs hs' : List Hint} {ob : Option Prop}
abbrev KW (env : Env) (H : Heap) (D : List Nat) (W : List (Nat × AV)) : Env → Heap → List Nat → Prop := fun e h d => e = updL env W ∧ h = H ∧ d = D
theorem val1_ok {l : LOp} {p : AV} {hs0 : List Hint} {ob0 : Option Prop} (h : val1 dst p hs0 ob0 = some (W, hs', ob)) (k : obP ob0 → ∀ K : Env → Heap → List Nat → Prop, K (updO env dst p) H D → Op1 P r N l dst env H D K) (o : obP ob) :
    Op1 P r N l dst env H D (KW env H D W) := by
  cases dst with
  | none => simp only [val1, Option.some.injEq, Prod.mk.injEq] at h; obtain ⟨rfl, rfl, rfl⟩ := h; exact k o _ ⟨rfl, rfl, rfl⟩
  | some d => simp only [val1, Option.some.injEq, Prod.mk.injEq] at h; obtain ⟨rfl, rfl, rfl⟩ := h; exact k o _ ⟨rfl, rfl, rfl⟩
theorem val1_dst {p : AV} {hs0 : List Hint} {ob0 : Option Prop} (h : val1 dst p hs0 ob0 = some (W, hs', ob)) : dstIn dst (keysOf W) = true := by
  cases dst with
  | none => rfl
  | some d => simp only [val1, Option.some.injEq, Prod.mk.injEq] at h; obtain ⟨rfl, rfl, rfl⟩ := h; simp [dstIn, keysOf]
theorem valS_ok {l : LOp} {p : AV} {hs0 : List Hint} {ob0 : Option Prop} (h : valS dst p hs0 ob0 = some (W, hs', ob)) (k : obP ob0 → ∀ d, ∀ K : Env → Heap → List Nat → Prop, K (upd env d p) H D → Op1 P r N l (some d) env H D K) (o : obP ob) :
    Op1 P r N l dst env H D (KW env H D W) := by
  cases dst with
  | none => simp only [valS, reduceCtorEq] at h
  | some d => simp only [valS, Option.some.injEq, Prod.mk.injEq] at h; obtain ⟨rfl, rfl, rfl⟩ := h; exact k o _ _ ⟨rfl, rfl, rfl⟩
theorem valS_dst {p : AV} {hs0 : List Hint} {ob0 : Option Prop} (h : valS dst p hs0 ob0 = some (W, hs', ob)) : dstIn dst (keysOf W) = true := by
  cases dst with
  | none => rfl
  | some d => simp only [valS, Option.some.injEq, Prod.mk.injEq] at h; obtain ⟨rfl, rfl, rfl⟩ := h; simp [dstIn, keysOf]
theorem valN_ok {l : LOp} {p : AV} {hs0 : List Hint} {ob0 : Option Prop} (h : valN dst p hs0 ob0 = some (W, hs', ob)) (k : p.isLin = false → obP ob0 → ∀ K : Env → Heap → List Nat → Prop, K (updO env dst p) H D → Op1 P r N l dst env H D K) (o : obP ob) :
    Op1 P r N l dst env H D (KW env H D W) := by
  unfold valN at h
  cases hl : p.isLin with
  | true => rw [hl] at h; cases h
  | false => rw [hl] at h; exact val1_ok h (k hl) o
theorem valN_dst {p : AV} {hs0 : List Hint} {ob0 : Option Prop} (h : valN dst p hs0 ob0 = some (W, hs', ob)) : dstIn dst (keysOf W) = true := by
  unfold valN at h
  cases hl : p.isLin with
  | true => rw [hl] at h; cases h
  | false => rw [hl] at h; exact val1_dst h
theorem xPlain_ok {l : LOp} (h : xPlain l dst env hs = some (W, hs', ob)) (o : obP ob) : Op1 P r N l dst env H D (KW env H D W) := by
  unfold xPlain at h
  split at h
  · rename_i p hp
    exact valN_ok h (fun hl _ K k => Op1.plain hp hl k) o
  · cases h
theorem xPlain_dst {l : LOp} (h : xPlain l dst env hs = some (W, hs', ob)) : dstIn dst (keysOf W) = true := by
  unfold xPlain at h
  split at h
  · exact valN_dst h
  · cases h
theorem i_tonat {n : Int} (h : 0 ≤ n) : ∃ m : Nat, n = m := ⟨n.toNat, by omega⟩
theorem arith_ok {op : BinOp} {T : TypeId} {x y : Operand} {a b n : Int} {ob0 : Prop} (hx : evO env x = .v (.int .i64 a)) (hy : evO env y = .v (.int .i64 b)) (h : arith op a b = some (n, ob0)) (o : ob0)
    (K : Env → Heap → List Nat → Prop) (k : K (updO env dst (.v (.int .i64 n))) H D) : Op1 P r N (.bin op T x y) dst env H D K := by
  cases op <;> simp only [arith, Option.some.injEq, Prod.mk.injEq, reduceCtorEq] at h <;> obtain ⟨rfl, rfl⟩ := h
  case add => exact Op1.add hx hy o.1 o.2 k
  case sub => exact Op1.sub hx hy o.1 o.2 k
  case mul => exact Op1.mul hx hy o.1 o.2 k
  case quo =>
    obtain ⟨o1, o2, o3⟩ := o
    obtain ⟨a, rfl⟩ := i_tonat o1
    obtain ⟨b, rfl⟩ := i_tonat (Int.le_of_lt o3)
    exact Op1.quo hx hy o2 (by omega) k
  case rem =>
    obtain ⟨o1, o3⟩ := o
    obtain ⟨a, rfl⟩ := i_tonat o1
    obtain ⟨b, rfl⟩ := i_tonat (Int.le_of_lt o3)
    exact Op1.rem hx hy (by omega) k
  case and =>
    obtain ⟨⟨o1, o2⟩, o3, o4⟩ := o
    obtain ⟨a, rfl⟩ := i_tonat o1
    obtain ⟨b, rfl⟩ := i_tonat o3
    exact Op1.and hx hy (by omega) (by omega) k
  case or =>
    obtain ⟨⟨o1, o2⟩, o3, o4⟩ := o
    obtain ⟨a, rfl⟩ := i_tonat o1
    obtain ⟨b, rfl⟩ := i_tonat o3
    exact Op1.or hx hy (by omega) (by omega) k
  case andNot =>
    obtain ⟨⟨o1, o2⟩, o3⟩ := o
    obtain ⟨a, rfl⟩ := i_tonat o1
    obtain ⟨b, rfl⟩ := i_tonat o3
    exact Op1.andNot hx hy (by omega) k
  case shl =>
    obtain ⟨o1, o2, o3, o4⟩ := o
    obtain ⟨a, rfl⟩ := i_tonat o1
    obtain ⟨b, rfl⟩ := i_tonat o2
    have e : (a : Int) * 2 ^ (b : Int).toNat = ((a * 2 ^ b : Nat) : Int) := by simp
    rw [e] at o4 k
    exact Op1.shl hx hy (by omega) (by omega) k
  case shr =>
    obtain ⟨o1, o2, o3⟩ := o
    obtain ⟨a, rfl⟩ := i_tonat o1
    obtain ⟨b, rfl⟩ := i_tonat o2
    have e : (a : Int) / 2 ^ (b : Int).toNat = ((a / 2 ^ b : Nat) : Int) := by simp
    rw [e] at k
    exact Op1.shr hx hy (by omega) k
theorem bndV_ok {x : Option Operand} {m : Option Nat} {o : Prop} (h : bndV env x = some (m, o)) (ho : o) : BndO env x m := by
  cases x with
  | none => simp only [bndV, Option.some.injEq, Prod.mk.injEq] at h; exact h.1.symm
  | some x =>
    simp only [bndV] at h
    split at h
    · rename_i kd n hx
      simp only [Option.some.injEq, Prod.mk.injEq] at h
      obtain ⟨rfl, rfl⟩ := h
      exact ⟨kd, n, n.toNat, hx, by omega, rfl⟩
    · cases h
theorem notTmp_ok {t : Nat} {y : Operand} (h : notTmp t y = true) (p : AV) : evO (upd env t p) y = evO env y := by
  cases y with
  | tmp u =>
    simp only [notTmp, Bool.not_eq_true'] at h
    exact upd_other _ _ (fun e => by subst e; rw [Nat.beq_refl] at h; cases h)
  | _ => rfl
theorem ysOf_ok {kk : Nat} {p : AV} {ys : List (List AV)} (hy : ysOf kk p = some ys) : AsSl kk p ys := by
  unfold ysOf at hy
  split at hy
  · rename_i k zs
    cases hk : Nat.beq k kk with
    | false => rw [hk] at hy; cases hy
    | true =>
      rw [hk] at hy
      have := Nat.eq_of_beq_eq_true hk
      subst this
      simp only [cond_true, Option.some.injEq] at hy
      subst hy; exact .inl rfl
  · simp only [Option.some.injEq] at hy; subst hy; exact .inr ⟨rfl, rfl⟩
  · cases hy
theorem subL_self {ps qs : List AV} (h : ps = qs) : SubL ps qs := h ▸ SubL.refl ps
theorem xop_ok {gs : Nat → Option Bool} {op : LOp} (h : xop P gs H hs dst op env = some (W, hs', ob)) (o : obP ob) : Op1 P r N op dst env H D (KW env H D W) ∧ dstIn dst (keysOf W) = true := by
  cases op
  case pick c x y =>
    simp only [xop, xPick] at h
    split at h
    · split at h
      · rename_i b e h1 h2
        refine ⟨valN_ok h (fun hl he K k => ?_) o, valN_dst h⟩
        cases b with
        | true => exact Op1.pickT h2 he rfl hl k
        | false => exact Op1.pickF h2 he rfl hl k
      · cases h
    · cases h
  case bin op T x y =>
    simp only [xop, xBin] at h
    split at h
    · rename_i a b hx hy
      split at h
      · rename_i n ob0 ha
        exact ⟨val1_ok h (fun ho K k => arith_ok hx hy ha ho K k) o, val1_dst h⟩
      · exact ⟨xPlain_ok h o, xPlain_dst h⟩
    · rename_i s t hx hy
      split at h
      · exact ⟨val1_ok h (fun ho K k => Op1.concat hx hy ho k) o, val1_dst h⟩
      · exact ⟨xPlain_ok h o, xPlain_dst h⟩
    · exact ⟨xPlain_ok h o, xPlain_dst h⟩
  case eqT neg T x y =>
    simp only [xop, xEqB] at h
    split at h
    · rename_i a b hx hy
      exact ⟨val1_ok h (fun ho K k => Op1.eqB hx hy ho k) o, val1_dst h⟩
    · exact ⟨xPlain_ok h o, xPlain_dst h⟩
  case toInt kd s d x =>
    simp only [xop, xToInt] at h
    split at h
    · rename_i kx n hx
      exact ⟨val1_ok h (fun ho K k => Op1.toInt hx ho k) o, val1_dst h⟩
    · cases h
  case iaddr T x i kk =>
    simp only [xop, xIaddr] at h
    split at h
    · rename_i k es kd n hx hi
      split at h
      · rename_i e hs0
        cases hk : Nat.beq k kk with
        | false => rw [hk] at h; cases h
        | true =>
          rw [hk] at h
          have := Nat.eq_of_beq_eq_true hk
          subst this
          exact ⟨val1_ok h (fun ho K k => Op1.iaddr n.toNat hx hi (by omega) ho.2 k) o, val1_dst h⟩
      · cases h
    · rename_i b len cap kd n hx hi
      exact ⟨val1_ok h (fun ho K k => Op1.iaddrO n.toNat hx hi (by omega) ho.2 k) o, val1_dst h⟩
    · cases h
  case iaddrA T x i len kk =>
    simp only [xop, xIaddrA] at h
    split at h
    · rename_i cs kd n hx hi
      split at h
      · exact ⟨val1_ok h (fun ho K k => Op1.iaddrP n.toNat hx hi (by omega) ho.1.2 ho.2 k) o, val1_dst h⟩
      · exact ⟨val1_ok h (fun ho K k => Op1.iaddrA n.toNat hx hi (by omega) ho.2 k) o, val1_dst h⟩
    · rename_i b off kd n hx hi
      exact ⟨val1_ok h (fun ho K k => Op1.iaddrAo n.toNat hx hi (by omega) ho.2 k) o, val1_dst h⟩
    · cases h
  case indexS T x i =>
    simp only [xop, xIndexS] at h
    split at h
    · rename_i s kd n hx hi
      split at h
      · exact ⟨val1_ok h (fun ho K k => Op1.indexS n.toNat hx hi (by omega) ho.2 k) o, val1_dst h⟩
      · cases h
    · cases h
  case indexA T x i len kk g =>
    simp only [xop, xIndexA] at h
    split at h
    · split at h
      · rename_i l kd n hx hi
        exact ⟨valN_ok h (fun hl ho K k => Op1.indexA n.toNat hx hi (by omega) ho.1.2 ho.2 hl k) o, valN_dst h⟩
      · cases h
    · exact ⟨xPlain_ok h o, xPlain_dst h⟩
  case load T x n =>
    simp only [xop, xLoad] at h
    split at h
    · rename_i cs hx
      split at h
      · rename_i p hp
        exact ⟨valN_ok h (fun hl _ K k => Op1.plain (by simp only [pstep, hx]; exact hp) hl k) o, valN_dst h⟩
      · cases h
    · rename_i b off hx
      split at h
      · rename_i i hs0
        split at h
        · rename_i b' T' cs hH
          split at h
          · rename_i p hp
            exact ⟨val1_ok h (fun ho K k => Op1.loadO hx (ho ▸ hH) hp k) o, val1_dst h⟩
          · cases h
        · cases h
      · rename_i i m f e hs0
        split at h
        · rename_i b' T' kk cap es hH
          split at h
          · rename_i p hp
            exact ⟨val1_ok h (fun ho K k => Op1.loadE m f hx (ho.1 ▸ hH) ho.2.1 ho.2.2 hp k) o, val1_dst h⟩
          · cases h
        · cases h
      · rename_i i p hs0
        split at h
        · rename_i b' T' cs hH
          exact ⟨val1_ok h (fun ho K k => Op1.loadO hx (ho.1 ▸ hH) ho.2 k) o, val1_dst h⟩
        · cases h
      · cases h
    · rename_i T' cs hx
      split at h
      · rename_i p d hp
        cases hn : notTmp d x with
        | false => rw [hn] at h; cases h
        | true =>
          rw [hn] at h
          simp only [cond_true, Option.some.injEq, Prod.mk.injEq] at h
          obtain ⟨rfl, rfl, rfl⟩ := h
          refine ⟨?_, by simp [dstIn, keysOf]⟩
          cases x with
          | tmp t =>
            refine Op1.loadB hx hp ?_ ⟨rfl, rfl, rfl⟩
            intro e
            subst e
            simp [notTmp] at hn
          | const v =>
            exfalso
            have := cv_lin v
            simp only [evO] at hx
            rw [hx] at this; cases this
          | global g => cases hx
          | func f => cases hx
      · cases h
    · cases h
  case store T x y n =>
    simp only [xop, xStore] at h
    split at h
    · rename_i t
      split at h
      · rename_i T' cs ht
        cases hn : notTmp t y with
        | false => rw [hn] at h; cases h
        | true =>
          rw [hn] at h
          simp only [cond_true, Option.some.injEq, Prod.mk.injEq] at h
          obtain ⟨rfl, rfl, rfl⟩ := h
          exact ⟨Op1.storeB ht (fun p => notTmp_ok hn p) o.1 o.2.1 o.2.2.1 o.2.2.2 ⟨rfl, rfl, rfl⟩, rfl⟩
      · cases h
    · cases h
  case box T x =>
    simp only [xop, xBox] at h
    split at h
    · exact ⟨valS_ok h (fun ho d K k => Op1.boxI rfl ho.1 ho.2 k) o, valS_dst h⟩
    · exact ⟨valS_ok h (fun ho d K k => Op1.boxL rfl ho.1 ho.2 k) o, valS_dst h⟩
    · cases h
  case alloc T z =>
    simp only [xop, xAlloc] at h
    split at h
    · exact ⟨valS_ok h (fun ho d K k => Op1.allocI ho k) o, valS_dst h⟩
    · exact ⟨valS_ok h (fun ho d K k => Op1.allocL ho k) o, valS_dst h⟩
    · cases h
  case bslice T n ps E kk z =>
    simp only [xop, xBslice] at h
    split at h
    · rename_i q hq
      split at h
      · exact ⟨valS_ok h (fun ho d K k => Op1.bsliceI hq ho k) o, valS_dst h⟩
      · exact ⟨valS_ok h (fun ho d K k => Op1.bslice hq ho k) o, valS_dst h⟩
      · cases h
    · cases h
  case append T ty x y E kk bytes z =>
    simp only [xop, xAppend] at h
    split at h
    · rename_i u hs0
      split at h
      · rename_i t d
        split at h
        · rename_i ad n cap E' k' es ad' cap' ht hu
          cases hk : (Nat.beq E' E && (Nat.beq k' kk && (notTmp u y && (notTmp t y && !(Nat.beq t u))))) with
          | false => rw [hk] at h; cases h
          | true =>
            rw [hk] at h
            simp only [Bool.and_eq_true, Bool.not_eq_true'] at hk
            obtain ⟨k1, k2, k3, k4, k5⟩ := hk
            have e1 := Nat.eq_of_beq_eq_true k1
            have e2 := Nat.eq_of_beq_eq_true k2
            subst e1 e2
            simp only [cond_true] at h
            split at h
            · rename_i ys hy
              simp only [Option.some.injEq, Prod.mk.injEq] at h
              obtain ⟨rfl, rfl, rfl⟩ := h
              obtain ⟨⟨rfl, rfl, o1⟩, o2, o3⟩ := o
              refine ⟨Op1.appendV (u := u) (fun e => by subst e; simp at k5) hu ht o1 ?_ o2 o3 ⟨rfl, rfl, rfl⟩, by simp [dstIn, keysOf]⟩
              rw [notTmp_ok k4, notTmp_ok k3]
              exact ysOf_ok hy
            · cases h
        · cases h
      · cases h
    simp only [xAppendO] at h
    split at h
    · rename_i t d
      cases hn : notTmp t y with
      | false => rw [hn] at h; cases h
      | true =>
        rw [hn] at h
        simp only [cond_true] at h
        split at h
        · rename_i ys E' k' es hy ht
          cases hk : (Nat.beq E' E && Nat.beq k' kk) with
          | false => rw [hk] at h; cases h
          | true =>
            rw [hk] at h
            simp only [Bool.and_eq_true] at hk
            have e1 := Nat.eq_of_beq_eq_true hk.1
            have e2 := Nat.eq_of_beq_eq_true hk.2
            subst e1 e2
            simp only [cond_true, Option.some.injEq, Prod.mk.injEq] at h
            obtain ⟨rfl, rfl, rfl⟩ := h
            refine ⟨?_, by simp [dstIn, keysOf]⟩
            exact Op1.append ht (ysOf_ok hy) o.1 o.2 ⟨rfl, rfl, rfl⟩
        · rename_i ys hy ht
          simp only [Option.some.injEq, Prod.mk.injEq] at h
          obtain ⟨rfl, rfl, rfl⟩ := h
          exact ⟨Op1.appendNil ht (fun p => by rw [notTmp_ok hn]; exact ysOf_ok hy) o.1 o.2 ⟨rfl, rfl, rfl⟩, by simp [dstIn, keysOf]⟩
        · cases h
    · cases h
  case mslice T l c E kk bytes z =>
    simp only [xop, xMslice] at h
    split at h
    · rename_i kl nl kc nc hl hc
      exact ⟨valS_ok h (fun ho d K k => Op1.msliceL nl.toNat hl hc (by omega) (by omega) ho.2.2.1 ho.2.2.2.1 ho.2.2.2.2 k) o, valS_dst h⟩
    · cases h
  case mov x =>
    simp only [xop, xMov] at h
    split at h
    · rename_i t d
      split at h
      · rename_i T k es ht
        cases hb : Nat.beq t d with
        | true => rw [hb] at h; cases h
        | false =>
          rw [hb] at h
          simp only [cond_false, Option.some.injEq, Prod.mk.injEq] at h
          obtain ⟨rfl, rfl, rfl⟩ := h
          exact ⟨Op1.movL ht ⟨rfl, rfl, rfl⟩, by simp [dstIn, keysOf]⟩
      · rename_i T k es ad cap ht
        simp only [Option.some.injEq, Prod.mk.injEq] at h
        obtain ⟨rfl, rfl, rfl⟩ := h
        exact ⟨Op1.movV ht ⟨rfl, rfl, rfl⟩, by simp [dstIn, keysOf]⟩
      · exact ⟨xPlain_ok h o, xPlain_dst h⟩
    · exact ⟨xPlain_ok h o, xPlain_dst h⟩
  case call f xs ty =>
    simp only [xop, xCall] at h
    split at h
    · rename_i res hs0
      cases hn : noLin (xs.map (evO env)) with
      | false => rw [hn] at h; cases h
      | true => rw [hn] at h; exact ⟨val1_ok h (fun ho K k => Op1.call ho rfl hn (SubL.refl _) k) o, val1_dst h⟩
    · rename_i qs res hs0
      cases hn : noLin (xs.map (evO env)) with
      | false => rw [hn] at h; cases h
      | true => rw [hn] at h; exact ⟨val1_ok h (fun ho K k => Op1.call ho.1 rfl hn ho.2 k) o, val1_dst h⟩
    · rename_i qs res hs0
      cases hn : noLin (xs.map (evO env)) with
      | false => rw [hn] at h; cases h
      | true => rw [hn] at h; exact ⟨val1_ok h (fun ho K k => Op1.callB ho.1 rfl hn ho.2.2 ho.2.1 k) o, val1_dst h⟩
    · cases h
  case callv x xs ty =>
    simp only [xop, xCallv] at h
    split at h
    · rename_i f first caps hx
      cases hn : noLin (xs.map (evO env)) with
      | false => rw [hn] at h; cases h
      | true =>
        rw [hn] at h
        simp only [cond_true] at h
        split at h
        · exact ⟨val1_ok h (fun ho K k => Op1.callv hx ho rfl hn (SubL.refl _) k) o, val1_dst h⟩
        · exact ⟨val1_ok h (fun ho K k => Op1.callv hx ho.1 rfl hn ho.2 k) o, val1_dst h⟩
        · exact ⟨val1_ok h (fun ho K k => Op1.callvB hx ho.1 rfl hn ho.2.2 ho.2.1 k) o, val1_dst h⟩
        · cases h
    · cases h
  case min ts ty xs =>
    simp only [xop, xMin] at h
    split at h
    · split at h
      · rename_i a b hx hy
        exact ⟨val1_ok h (fun ho K k => Op1.min2 hx hy k) o, val1_dst h⟩
      · cases h
    · cases h
  case max ts ty xs =>
    simp only [xop, xMin] at h
    split at h
    · split at h
      · rename_i a b hx hy
        exact ⟨val1_ok h (fun ho K k => Op1.max2 hx hy k) o, val1_dst h⟩
      · cases h
    · cases h
  case sliceS T x lo hi mx =>
    cases mx with
    | some m => simp only [xop] at h; exact ⟨xPlain_ok h o, xPlain_dst h⟩
    | none =>
      simp only [xop, xSliceS] at h
      split at h
      · rename_i s l o1 hh o2 hx h1 h2
        exact ⟨val1_ok h (fun ho K k => Op1.sliceS l hh hx (bndV_ok h1 ho.1.1) (bndV_ok h2 ho.1.2) ho.2.1 ho.2.2 k) o, val1_dst h⟩
      · cases h
  case sliceE T x lo hi mx kk =>
    cases mx with
    | some m => simp only [xop] at h; exact ⟨xPlain_ok h o, xPlain_dst h⟩
    | none =>
      simp only [xop, xSliceE] at h
      split at h
      · rename_i k es l o1 hh o2 hx h1 h2
        cases hk : Nat.beq k kk with
        | false => rw [hk] at h; cases h
        | true =>
          rw [hk] at h
          have := Nat.eq_of_beq_eq_true hk
          subst this
          exact ⟨val1_ok h (fun ho K k => Op1.sliceE l hh hx (bndV_ok h1 ho.1.1) (bndV_ok h2 ho.1.2) ho.2.1 ho.2.2 k) o, val1_dst h⟩
      · cases h
  case sliceA T x lo hi mx n kk =>
    cases mx with
    | some m => simp only [xop] at h; exact ⟨xPlain_ok h o, xPlain_dst h⟩
    | none =>
      simp only [xop, xSliceA] at h
      split at h
      · rename_i cs l o1 hh o2 hx h1 h2
        exact ⟨val1_ok h (fun ho K k => Op1.sliceA l hh hx (bndV_ok h1 ho.1.1) (bndV_ok h2 ho.1.2) ho.2.1.1 ho.2.1.2 ho.2.2.1 ho.2.2.2 k) o, val1_dst h⟩
      · rename_i b off o1 o2 hx h1 h2
        split at h
        · exact ⟨val1_ok h (fun ho K k => Op1.sliceAo hx k) o, val1_dst h⟩
        · cases h
      · cases h
  all_goals (simp only [xop] at h; exact ⟨xPlain_ok h o, xPlain_dst h⟩)
def xopG (P : Program) (gs : Nat → Option Bool) (H : Heap) (hs : List Hint) (dst : Option Nat) (op : LOp) (env : Env) : XR := match xop P gs H hs dst op env with
  | some x => some x
  | none => match hs, dst with
    | .op p :: hs, some d => some ([(d, p)], hs, some (∀ (r : Option Nat) (N : Nat) (D : List Nat), Q1 P r N op (some d) env H D [(d, p)]))
    | _, _ => none
theorem xopG_ok {gs : Nat → Option Bool} {op : LOp} (h : xopG P gs H hs dst op env = some (W, hs', ob)) (o : obP ob) : Op1 P r N op dst env H D (KW env H D W) ∧ dstIn dst (keysOf W) = true := by
  unfold xopG at h
  split at h
  · rename_i x hx
    cases h
    exact xop_ok hx o
  · split at h
    · rename_i p hs0 d
      simp only [Option.some.injEq, Prod.mk.injEq] at h
      obtain ⟨rfl, rfl, rfl⟩ := h
      exact ⟨o r N D, by simp [dstIn, keysOf]⟩
    · cases h
end
end Go.Px

namespace Go.Px
def glook : List (Nat × Bool) → Nat → Option Bool
  | [], _ => none
  | (t, b) :: l, i => bif Nat.beq i t then some b else glook l i
def andP : Option Prop → Prop → Prop
  | none, q => q
  | some p, q => p ∧ q
def xoper (P : Program) (gs : List (Nat × Bool)) (H : Heap) (hs : List Hint) (l : LOper) (env : Env) : XR := match l.guard with
  | none => xopG P (glook gs) H hs l.dst l.op env
  | some (t, b) => match glook gs t, env t with
    | some c, .v (.bool e) => match c, b with
      | true, true | false, false => (match xopG P (glook gs) H hs l.dst l.op env with
        | some (W, hs', none) => some (W, hs', some (e = c))
        | some (W, hs', some q) => some (W, hs', some (e = c ∧ q))
        | none => none)
      | _, _ => match l.dst with
        | some d => some ([(d, .v undef)], hs, some (e = c))
        | none => none
    | _, .v (.tuple _) => match l.dst with
        | some d => some ([(d, .v undef)], hs, none)
        | none => none
    | _, _ => none
theorem andP_ok {o : Option Prop} {p : Prop} (h : andP o p) : obP o ∧ p := by
  cases o with
  | none => exact ⟨trivial, h⟩
  | some q => exact h
section
variable {P : Program} {r : Option Nat} {N : Nat} {env : Env} {H : Heap} {D : List Nat} {Q : Post}
theorem xoper_ok {gs : List (Nat × Bool)} {hs hs' : List Hint} {l : LOper} {W : List (Nat × AV)} {ob : Option Prop} (h : xoper P gs H hs l env = some (W, hs', ob)) (o : obP ob) : QStep P r N l env H D W ∧ dstIn l.dst (keysOf W) = true := by
  unfold xoper at h
  unfold QStep
  split at h
  · rename_i hg
    try rw [hg]
    exact xopG_ok h o
  · rename_i t b hg
    try rw [hg]
    split at h
    · rename_i c e hc he
      have pos : c = b → (match xopG P (glook gs) H hs l.dst l.op env with
          | some (W, hs', none) => some (W, hs', some (e = c))
          | some (W, hs', some q) => some (W, hs', some (e = c ∧ q))
          | none => none) = some (W, hs', ob) → (∃ c : Bool, env t = .v (.bool c) ∧ ((c = b ∧ Q1 P r N l.op l.dst env H D W) ∨ (c ≠ b ∧ ∃ d, l.dst = some d ∧ W = [(d, .v undef)]))) ∧ dstIn l.dst (keysOf W) = true := by
        intro hcb h
        split at h
        · rename_i W0 hs0 hx
          simp only [Option.some.injEq, Prod.mk.injEq] at h
          obtain ⟨rfl, rfl, rfl⟩ := h
          obtain ⟨h1, h2⟩ := xopG_ok (r := r) (N := N) (D := D) hx trivial
          exact ⟨⟨e, he, .inl ⟨by rw [o, hcb], h1⟩⟩, h2⟩
        · rename_i W0 hs0 ob0 hx
          simp only [Option.some.injEq, Prod.mk.injEq] at h
          obtain ⟨rfl, rfl, rfl⟩ := h
          obtain ⟨o1, o2⟩ := o
          obtain ⟨h1, h2⟩ := xopG_ok (r := r) (N := N) (D := D) hx o2
          exact ⟨⟨e, he, .inl ⟨by rw [o1, hcb], h1⟩⟩, h2⟩
        · cases h
      have neg : c ≠ b → (match l.dst with
          | some d => some ([(d, AV.v undef)], hs, some (e = c))
          | none => none) = some (W, hs', ob) → (∃ c : Bool, env t = .v (.bool c) ∧ ((c = b ∧ Q1 P r N l.op l.dst env H D W) ∨ (c ≠ b ∧ ∃ d, l.dst = some d ∧ W = [(d, .v undef)]))) ∧ dstIn l.dst (keysOf W) = true := by
        intro hcb h
        split at h
        · rename_i d hd
          simp only [Option.some.injEq, Prod.mk.injEq] at h
          obtain ⟨rfl, rfl, rfl⟩ := h
          exact ⟨⟨e, he, .inr ⟨by rw [o]; exact hcb, d, hd, rfl⟩⟩, by simp [dstIn, keysOf, hd]⟩
        · cases h
      cases c <;> cases b
      · exact (pos rfl h).imp .inl id
      · exact (neg (by simp) h).imp .inl id
      · exact (neg (by simp) h).imp .inl id
      · exact (pos rfl h).imp .inl id
    · rename_i cs he
      split at h
      · rename_i d hd
        simp only [Option.some.injEq, Prod.mk.injEq] at h
        obtain ⟨rfl, rfl, rfl⟩ := h
        exact ⟨.inr ⟨⟨cs, he⟩, d, hd, rfl⟩, by simp [dstIn, keysOf, hd]⟩
      · cases h
    · cases h
def xrun (P : Program) (gs : List (Nat × Bool)) (H : Heap) : List LOper → List Hint → Env → Env × List LOper × List Hint × Prop
  | [], hs, env => (env, [], hs, True)
  | l :: ls, hs, env => match xoper P gs H hs l env with
    | some (W, hs', ob) => match xrun P gs H ls hs' (updL env W), ob with
      | (e, rest, h, o), none => (e, rest, h, o)
      | (e, rest, h, o), some p => (e, rest, h, p ∧ o)
    | none => (env, l :: ls, hs, True)
theorem WOps.qstep {l : LOper} {ls : List LOper} {W : List (Nat × AV)} (h : QStep P r N l env H D W) (k : WOps P r N ls Q (updL env W) H D) : WOps P r N (l :: ls) Q env H D := by
  obtain ⟨dst, g, op⟩ := l
  unfold QStep at h
  cases g with
  | none => exact WOps.cons (Op1.mono h (by rintro e h d ⟨rfl, rfl, rfl⟩; exact k))
  | some tb =>
    obtain ⟨t, b⟩ := tb
    rcases h with ⟨c, hc, h⟩ | ⟨⟨cs, hc⟩, d, hd, rfl⟩
    · rcases h with ⟨hcb, h⟩ | ⟨hcb, d, hd, rfl⟩
      · subst hcb; exact WOps.yes hc (Op1.mono h (by rintro e h d ⟨rfl, rfl, rfl⟩; exact k))
      · simp only at hd
        subst hd
        exact WOps.no hc hcb k
    · simp only at hd
      subst hd
      exact WOps.nop hc k
theorem WOps.x {gs : List (Nat × Bool)} : ∀ {ls : List LOper} {hs : List Hint} {env env' : Env} {ls' : List LOper} {hs' : List Hint} {ob : Prop}, xrun P gs H ls hs env = (env', ls', hs', ob) → ob → WOps P r N ls' Q env' H D → WOps P r N ls Q env H D
  | [], hs, env, env', ls', hs', ob, h, o, k => by
    simp only [xrun, Prod.mk.injEq] at h
    obtain ⟨rfl, rfl, rfl, rfl⟩ := h
    exact k
  | l :: ls, hs, env, env', ls', hs', ob, h, o, k => by
    simp only [xrun] at h
    split at h
    · rename_i W hs1 ob1 hx
      obtain ⟨⟨e, rest, h2, o2⟩, hr⟩ : ∃ q, xrun P gs H ls hs1 (updL env W) = q := ⟨_, rfl⟩
      rw [hr] at h
      have h : (e, rest, h2, andP ob1 o2) = (env', ls', hs', ob) := by cases ob1 <;> exact h
      simp only [Prod.mk.injEq] at h
      obtain ⟨rfl, rfl, rfl, rfl⟩ := h
      obtain ⟨oa, ob'⟩ := andP_ok o
      exact WOps.qstep (xoper_ok hx oa).1 (WOps.x hr ob' k)
    · simp only [Prod.mk.injEq] at h
      obtain ⟨rfl, rfl, rfl, rfl⟩ := h
      exact k
theorem WOps.xd {gs : List (Nat × Bool)} {ls : List LOper} {hs hs' : List Hint} {env' : Env} {ob : Prop} (h : xrun P gs H ls hs env = (env', [], hs', ob)) (o : ob) (k : Q .normal env' H D) : WOps P r N ls Q env H D :=
  WOps.x h o (WOps.nil k)
theorem LWp.x {gs : List (Nat × Bool)} {ls : List LOper} {hs hs' : List Hint} {env' : Env} {ob : Prop} (h : xrun P gs H ls hs env = (env', [], hs', ob)) (o : ob) (k : Q .normal env' H D) : LWp P r N (.ops ls) Q env H D :=
  LWp.ops (WOps.xd h o k)
theorem LWp.sx {y : LCode} {gs : List (Nat × Bool)} {ls : List LOper} {hs hs' : List Hint} {env' : Env} {ob : Prop} (h : xrun P gs H ls hs env = (env', [], hs', ob)) (o : ob) (k : LWp P r N y Q env' H D) : LWp P r N (.seq (.ops ls) y) Q env H D :=
  LWp.seq (LWp.x h o k)
def oTmps : Operand → List Nat
  | .tmp t => [t]
  | _ => []
def ooTmps : Option Operand → List Nat
  | some (.tmp t) => [t]
  | _ => []
def osTmps : List Operand → List Nat
  | [] => []
  | .tmp t :: l => t :: osTmps l
  | _ :: l => osTmps l
def psTmps : List (Nat × Operand) → List Nat
  | [] => []
  | (_, .tmp t) :: l => t :: psTmps l
  | _ :: l => psTmps l
def plTmps : List (Nat × Nat × Operand) → List Nat
  | [] => []
  | (_, _, .tmp t) :: l => t :: plTmps l
  | _ :: l => plTmps l
def opTmps : LOp → List Nat
  | .mov x => oTmps x
  | .pick c x y => oTmps c ++ (oTmps x ++ oTmps y)
  | .bin _ _ x y => oTmps x ++ oTmps y
  | .eqT _ _ x y => oTmps x ++ oTmps y
  | .un _ x => oTmps x
  | .toInt _ _ _ x => oTmps x
  | .conv _ _ x => oTmps x
  | .extract x _ => oTmps x
  | .faddr _ x _ _ => oTmps x
  | .iaddr _ x i _ => oTmps x ++ oTmps i
  | .iaddrA _ x i _ _ => oTmps x ++ oTmps i
  | .load _ x _ => oTmps x
  | .store _ x y _ => oTmps x ++ oTmps y
  | .field _ x _ _ _ => oTmps x
  | .indexS _ x i => oTmps x ++ oTmps i
  | .indexA _ x i _ _ _ => oTmps x ++ oTmps i
  | .build _ _ _ pl => plTmps pl
  | .bslice _ _ ps _ _ _ => psTmps ps
  | .box _ x => oTmps x
  | .mkfn _ a b => osTmps a ++ osTmps b
  | .nilck x => oTmps x
  | .len _ _ _ x => oTmps x
  | .lenM _ _ x => oTmps x
  | .append _ _ x y _ _ _ _ => oTmps x ++ oTmps y
  | .appendS _ _ _ x y _ _ _ _ => oTmps x ++ oTmps y
  | .appendM _ _ _ x y _ _ _ _ => oTmps x ++ oTmps y
  | .sdata _ _ x => oTmps x
  | .ustr _ _ _ x y => oTmps x ++ oTmps y
  | .min _ _ xs => osTmps xs
  | .max _ _ xs => osTmps xs
  | .mslice _ l c _ _ _ _ => oTmps l ++ oTmps c
  | .lookup _ x i _ _ _ _ => oTmps x ++ oTmps i
  | .sliceS _ x a b _ => oTmps x ++ (ooTmps a ++ ooTmps b)
  | .sliceE _ x a b _ _ => oTmps x ++ (ooTmps a ++ ooTmps b)
  | .sliceA _ x a b _ _ _ => oTmps x ++ (ooTmps a ++ ooTmps b)
  | .call _ xs _ => osTmps xs
  | .callv x xs _ => oTmps x ++ osTmps xs
  | .mkif _ x => oTmps x
  | _ => []
def footOf (l : LOper) : List Nat := (match l.guard with | some (t, _) => [t] | none => []) ++ ((match l.dst with | some d => [d] | none => []) ++ opTmps l.op)
def footH (l : LOper) (hs : List Hint) : List Nat × List Hint := match hs with
  | .foot fs :: hs' => (match l.op with
    | .call _ _ _ => (footOf l ++ fs, hs')
    | .callv _ _ _ => (footOf l ++ fs, hs')
    | _ => (footOf l, hs))
  | .own u :: _ => (match l.op with
    | .append _ _ _ _ _ _ _ _ => (footOf l ++ [u], hs)
    | _ => (footOf l, hs))
  | _ => (footOf l, hs)
def drun (P : Program) (gs : List (Nat × Bool)) (H : Heap) : List (LOper × List Nat) → List Hint → Env → Env × List (List Nat × List Nat) × List (LOper × List Nat) × List Hint × Prop
  | [], hs, env => (env, [], [], hs, True)
  | (l, pr) :: ls, hs, env => match footH l hs with
    | (f, hs0) => match xoper P gs H hs0 l (only f env) with
      | some (W, hs', ob) => bif subB (keysOf W) f then (match drun P gs H ls hs' (updL env W), ob with
        | (e, infos, rest, h, o), none => (e, (f, keysOf W) :: infos, rest, h, o)
        | (e, infos, rest, h, o), some p => (e, (f, keysOf W) :: infos, rest, h, p ∧ o)) else (env, [], (l, pr) :: ls, hs, True)
      | none => (env, [], (l, pr) :: ls, hs, True)
theorem DCh.run {gs : List (Nat × Bool)} : ∀ {ls : List (LOper × List Nat)} {hs : List Hint} {env e1 env' : Env} {i1 i2 : List (List Nat × List Nat)} {rest : List (LOper × List Nat)} {hs' : List Hint} {ob : Prop} {suf : List LOper},
    drun P gs H ls hs env = (e1, i1, rest, hs', ob) → ob → DCh P r N H D e1 rest i2 suf env' → DCh P r N H D env ls (i1 ++ i2) suf env'
  | [], hs, env, e1, env', i1, i2, rest, hs', ob, suf, h, o, k => by
    simp only [drun, Prod.mk.injEq] at h
    obtain ⟨rfl, rfl, rfl, rfl, rfl⟩ := h
    exact k
  | (l, pr) :: ls, hs, env, e1, env', i1, i2, rest, hs', ob, suf, h, o, k => by
    simp only [drun] at h
    obtain ⟨⟨f, hs0⟩, hf⟩ : ∃ q, footH l hs = q := ⟨_, rfl⟩
    rw [hf] at h
    simp only at h
    split at h
    · rename_i W hs1 ob1 hx
      cases hsub : subB (keysOf W) f with
      | false =>
        rw [hsub] at h
        simp only [cond_false, Prod.mk.injEq] at h
        obtain ⟨rfl, rfl, rfl, rfl, rfl⟩ := h
        exact k
      | true =>
        rw [hsub] at h
        obtain ⟨⟨e, infos, rest', h2, o2⟩, hr⟩ : ∃ q, drun P gs H ls hs1 (updL env W) = q := ⟨_, rfl⟩
        rw [hr] at h
        have h : (e, (f, keysOf W) :: infos, rest', h2, andP ob1 o2) = (e1, i1, rest, hs', ob) := by cases ob1 <;> exact h
        simp only [Prod.mk.injEq] at h
        obtain ⟨rfl, rfl, rfl, rfl, rfl⟩ := h
        obtain ⟨oa, ob'⟩ := andP_ok o
        obtain ⟨h1, h2'⟩ := xoper_ok (r := r) (N := N) (D := D) hx oa
        exact DCh.cons f h1 hsub h2' (DCh.run hr ob' k)
    · simp only [Prod.mk.injEq] at h
      obtain ⟨rfl, rfl, rfl, rfl, rfl⟩ := h
      exact k
theorem LWp.d {gs : List (Nat × Bool)} {ops : List (LOper × List Nat)} {hs hs' : List Hint} {env' : Env} {infos : List (List Nat × List Nat)} {rest : List (LOper × List Nat)} {ob : Prop} (hm : P.follows .mixedOrders = true)
    (h : drun P gs H ops hs env = (env', infos, rest, hs', ob)) (hok : okDraw (ops.map (·.2)) infos = true) (o : ob) (k : WOps P r N (rest.map (·.1)) Q env' H D) : LWp P r N (.dops ops) Q env H D :=
  LWp.dops hm (DCh.run h o DCh.nil) (by rw [List.append_nil]; exact hok) k
theorem LWp.sd {y : LCode} {gs : List (Nat × Bool)} {ops : List (LOper × List Nat)} {hs hs' : List Hint} {env' : Env} {infos : List (List Nat × List Nat)} {ob : Prop} (hm : P.follows .mixedOrders = true)
    (h : drun P gs H ops hs env = (env', infos, [], hs', ob)) (hok : okDraw (ops.map (·.2)) infos = true) (o : ob) (k : LWp P r N y Q env' H D) : LWp P r N (.seq (.dops ops) y) Q env H D :=
  LWp.seq (LWp.d hm h hok o (WOps.nil k))
theorem LWp.loopN {X : Type} (Iv : X → Prop) (E : X → Env) (Hh : X → Heap) (Dd : X → List Nat) (m : X → Nat) {x : LCode} (x0 : X) (hx0 : Iv x0) (h0 : Ent env H D (E x0) (Hh x0) (Dd x0))
    (hb : ∀ i, Iv i → LWp P r N x (thenP (fun env' H' D' => ∃ i', Iv i' ∧ m i' < m i ∧ Ent env' H' D' (E i') (Hh i') (Dd i')) Q) (E i) (Hh i) (Dd i)) : LWp P r N (.loop x) Q env H D :=
  LWp.loop (X := { i : X // Iv i }) (fun i => E i.1) (fun i => Hh i.1) (fun i => Dd i.1) (fun i => m i.1) ⟨x0, hx0⟩ h0
    (fun i => by
      intro c hc C a w S L hN hs
      refine wpIn_mono (hb i.1 i.2 c hc C a w S L hN hs) ?_
      rintro e a' w' ⟨env', H', D', S', L', hs', hq⟩
      refine ⟨env', H', D', S', L', hs', ?_⟩
      cases e with
      | normal => obtain ⟨i', h1, h2, h3⟩ := hq; exact ⟨⟨i', h1⟩, h2, h3⟩
      | _ => exact hq)
theorem LWp.mono {x : LCode} {Q' : Post} (h : LWp P r N x Q env H D) (k : ∀ e env H D, Q e env H D → Q' e env H D) : LWp P r N x Q' env H D :=
  fun c hc C a w S L hN hs => wpIn_mono (h c hc C a w S L hN hs) (by
    rintro e a' w' ⟨env', H', D', S', L', hs', hq⟩
    exact ⟨env', H', D', S', L', hs', k _ _ _ _ hq⟩)
end
end Go.Px

namespace Go.Px
section
variable {P : Program} {r : Option Nat} {N : Nat} {env : Env} {H : Heap} {D : List Nat} {Q : Post}
theorem LWp.slLen {x : LCode} (t : Nat) {k : Nat} {es : List (List AV)} (ht : env t = .sl k es) (h : es.length ≤ 9223372036854775807 → LWp P r N x Q env H D) : LWp P r N x Q env H D := by
  intro c hc C a w S L hN hs
  refine h ?_ c hc C a w S L hN hs
  have hr := hs.rep ht rfl
  simp only [Rep] at hr
  rcases hr with ⟨_, rfl⟩ | ⟨b, off, cap, _, h1, h2, _⟩
  · simp
  · unfold maxLen at h2; omega
theorem LWp.blockT {Y : Type} {id : Nat} {x y : LCode} (Iv : Y → Prop) (E : Y → Env) (Hh : Y → Heap) (Dd : Y → List Nat) (h : LWp P r N x (blockP id (thenP (fun e h d => ∃ j, Iv j ∧ Ent e h d (E j) (Hh j) (Dd j)) Q)) env H D)
    (k : ∀ j, Iv j → LWp P r N y Q (E j) (Hh j) (Dd j)) : LWp P r N (.block id x) (thenP (fun e h d => LWp P r N y Q e h d) Q) env H D :=
  LWp.block (LWp.mono h (by
    intro e env' H' D' hq
    cases e with
    | normal => obtain ⟨j, h1, h2⟩ := hq; exact LWp.ent h2 (k j h1)
    | exit id' =>
      simp only [blockP] at hq ⊢
      split
      · rename_i e; rw [if_pos e] at hq; obtain ⟨j, h1, h2⟩ := hq; exact LWp.ent h2 (k j h1)
      · rename_i e; rw [if_neg e] at hq; exact hq
    | _ => exact hq))
theorem LWp.blockX {Y : Type} {id : Nat} {x y : LCode} (Iv : Y → Prop) (E : Y → Env) (Hh : Y → Heap) (Dd : Y → List Nat) (h : LWp P r N x (blockP id (thenP (fun e h d => ∃ j, Iv j ∧ Ent e h d (E j) (Hh j) (Dd j)) Q)) env H D)
    (k : ∀ j, Iv j → LWp P r N y Q (E j) (Hh j) (Dd j)) : LWp P r N (.seq (.block id x) y) Q env H D :=
  LWp.seqBlock (LWp.mono h (by
    intro e env' H' D' hq
    cases e with
    | normal => obtain ⟨j, h1, h2⟩ := hq; exact LWp.ent h2 (k j h1)
    | exit id' =>
      simp only [blockP] at hq ⊢
      split
      · rename_i e; rw [if_pos e] at hq; obtain ⟨j, h1, h2⟩ := hq; exact LWp.ent h2 (k j h1)
      · rename_i e; rw [if_neg e] at hq; exact hq
    | _ => exact hq))
theorem LWp.cutX {Y : Type} {x y : LCode} (Iv : Y → Prop) (E : Y → Env) (Hh : Y → Heap) (Dd : Y → List Nat) (h : LWp P r N x (thenP (fun e h d => ∃ j, Iv j ∧ Ent e h d (E j) (Hh j) (Dd j)) Q) env H D)
    (k : ∀ j, Iv j → LWp P r N y Q (E j) (Hh j) (Dd j)) : LWp P r N (.seq x y) Q env H D :=
  LWp.seq (LWp.mono h (by
    intro e env' H' D' hq
    cases e with
    | normal => obtain ⟨j, h1, h2⟩ := hq; exact LWp.ent h2 (k j h1)
    | _ => exact hq))
theorem LWp.dd {gs : List (Nat × Bool)} {ops : List (LOper × List Nat)} {hs hs' : List Hint} {env' : Env} {infos : List (List Nat × List Nat)} {ob : Prop} (hm : P.follows .mixedOrders = true)
    (h : drun P gs H ops hs env = (env', infos, [], hs', ob)) (hok : okDraw (ops.map (·.2)) infos = true) (o : ob) (k : Q .normal env' H D) : LWp P r N (.dops ops) Q env H D :=
  LWp.d hm h hok o (WOps.nil k)
abbrev ints (l : List Int) : AV := .sl 1 (l.map fun x => [I x])
end
end Go.Px

