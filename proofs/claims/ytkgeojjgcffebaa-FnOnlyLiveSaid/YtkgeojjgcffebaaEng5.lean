/- An evaluator of the loaded program over an abstract heap, proved right: part 5. -/
import Derived.Test.YtkgeojjgcffebaaEng4
import Derived.LoopN
set_option linter.unusedVariables false
set_option linter.unusedSimpArgs false
set_option linter.unusedSectionVars false
/- The engine, part 29: loops by their rounds; callees by what they answer. -/
namespace Go.Eng
inductive Rnd (σ τ κ : Type) where
  | again (s : σ)
  | exit (t : τ)
  | ret (k : κ)
  | stuck
def rndE {σ τ κ ρ : Type} (a : σ → Option ρ) (x : τ → Option ρ) (r : κ → Option ρ) : Rnd σ τ κ → Option ρ
  | .again s => a s
  | .exit t => x t
  | .ret k => r k
  | .stuck => none
def sumK {α β γ : Type} (o : α ⊕ β) (f : α → γ) (g : β → γ) : γ := match o with
  | .inl a => f a
  | .inr b => g b
theorem cond_bind {α β : Type} (c : Bool) (a b : Option α) (f : α → Option β) : (cond c a b).bind f = cond c (a.bind f) (b.bind f) := by cases c <;> rfl
theorem sumK_bind {α β γ δ : Type} (o : α ⊕ β) (f : α → Option γ) (g : β → Option γ) (h : γ → Option δ) : (sumK o f g).bind h = sumK o (fun a => (f a).bind h) (fun b => (g b).bind h) := by cases o <;> rfl
section
variable {σ τ κ ρ : Type}
theorem rndE_again (a : σ → Option ρ) (x : τ → Option ρ) (r : κ → Option ρ) (s : σ) : rndE a x r (.again s) = a s := rfl
theorem rndE_exit (a : σ → Option ρ) (x : τ → Option ρ) (r : κ → Option ρ) (s : τ) : rndE a x r (.exit s) = x s := rfl
theorem rndE_ret (a : σ → Option ρ) (x : τ → Option ρ) (r : κ → Option ρ) (s : κ) : rndE a x r (.ret s) = r s := rfl
def runN (step : σ → Option (Rnd σ τ κ)) : Nat → σ → Option (τ ⊕ κ)
  | 0, _ => none
  | n + 1, s => (step s).bind (rndE (runN step n) (fun t => some (.inl t)) (fun k => some (.inr k)))
theorem runN_mono (step : σ → Option (Rnd σ τ κ)) : ∀ (n : Nat) (s : σ) (o : τ ⊕ κ), runN step n s = some o → runN step (n + 1) s = some o := by
  intro n
  induction n with
  | zero => intro s o h; simp [runN] at h
  | succ n ih =>
    intro s o h
    unfold runN at h ⊢
    cases hs : step s with
    | none => rw [hs] at h; simp at h
    | some r =>
      rw [hs] at h
      simp only [Option.bind_some] at h ⊢
      cases r with
      | again s' => exact ih s' o h
      | exit t => exact h
      | ret k => exact h
      | stuck => exact h
theorem runN_le (step : σ → Option (Rnd σ τ κ)) {n m : Nat} {s : σ} {o : τ ⊕ κ} (h : runN step n s = some o) (hle : n ≤ m) : runN step m s = some o := by
  induction m with
  | zero => have : n = 0 := by omega
            subst this; exact h
  | succ m ih =>
    rcases Nat.lt_or_ge n (m + 1) with h1 | h1
    · exact runN_mono step m s o (ih (by omega))
    · have : n = m + 1 := by omega
      subst this; exact h
open Classical in
/-- What a loop comes to. -/
noncomputable def runL (step : σ → Option (Rnd σ τ κ)) (s : σ) : Option (τ ⊕ κ) := if h : ∃ n, (runN step n s).isSome = true then runN step h.choose s else none
theorem runL_some {step : σ → Option (Rnd σ τ κ)} {s : σ} {o : τ ⊕ κ} : runL step s = some o ↔ ∃ n, runN step n s = some o := by
  unfold runL
  constructor
  · intro h
    split at h
    · exact ⟨_, h⟩
    · simp at h
  · rintro ⟨n, h⟩
    have he : ∃ n, (runN step n s).isSome = true := ⟨n, by rw [h]; rfl⟩
    rw [dif_pos he]
    have h2 := he.choose_spec
    obtain ⟨o2, h2⟩ := Option.isSome_iff_exists.1 h2
    have h3 := runN_le step h2 (Nat.le_max_left he.choose n)
    have h4 := runN_le step h (Nat.le_max_right he.choose n)
    rw [h2, ← h3, h4]
theorem runL_eq (step : σ → Option (Rnd σ τ κ)) (s : σ) : runL step s = (step s).bind (rndE (runL step) (fun t => some (.inl t)) (fun k => some (.inr k))) := by
  apply Option.ext
  intro o
  rw [runL_some]
  constructor
  · rintro ⟨n, h⟩
    cases n with
    | zero => simp [runN] at h
    | succ n =>
      unfold runN at h
      cases hs : step s with
      | none => rw [hs] at h; simp at h
      | some r =>
        rw [hs] at h
        simp only [Option.bind_some] at h ⊢
        cases r with
        | again s' => exact runL_some.2 ⟨n, h⟩
        | exit t => exact h
        | ret k => exact h
        | stuck => exact h
  · intro h
    cases hs : step s with
    | none => rw [hs] at h; simp at h
    | some r =>
      rw [hs] at h
      simp only [Option.bind_some] at h
      have key : ∀ n, runN step (n + 1) s = rndE (runN step n) (fun t => some (.inl t)) (fun k => some (.inr k)) r := fun n => by simp [runN, hs]
      cases r with
      | again s' =>
        obtain ⟨n, h⟩ := runL_some.1 h
        exact ⟨n + 1, by rw [key]; exact h⟩
      | exit t => exact ⟨1, by rw [key]; exact h⟩
      | ret k => exact ⟨1, by rw [key]; exact h⟩
      | stuck => exact ⟨1, by rw [key]; exact h⟩
/-- What a loop comes to that nothing is returned from. -/
noncomputable def runX (step : σ → Option (Rnd σ τ κ)) (s : σ) : Option τ := (runL step s).bind fun o => sumK o some fun _ => none
theorem runX_eq (step : σ → Option (Rnd σ τ κ)) (s : σ) : runX step s = (step s).bind (rndE (runX step) some fun _ => none) := by
  unfold runX
  rw [runL_eq]
  cases step s with
  | none => rfl
  | some r => cases r <;> rfl
end
section
variable {R : Type} {U : RowU R} {P : Program} {tagT : TypeId → Option Nat} {ρ : Type}
theorem loop_go (hT : TagOk P U tagT) (hm : P.follows .mixedOrders = true) {E : Env R} (hnl : E.nl = false) (hTab : TabOk P U E.T) {i : Nat} {h : LoopH R} {b : Code} (hLb : LoopsOk P U E b) {σ τ κ : Type}
    (st : σ → List V × Heap R) (so : τ → List V × Heap R) (sr : κ → List V × Heap R) (step : σ → Option (Rnd σ τ κ))
    (hstep : ∀ s (ρ : Type) (again Kx Kr : List V → Heap R → Option ρ), evRound U E i h (compC P tagT b) again (st s).1 (st s).2 Kx Kr = (step s).bind (rndE (fun s' => again (st s').1 (st s').2) (fun t => Kx (so t).1 (so t).2) (fun k => Kr (sr k).1 (sr k).2)))
    (s : σ) (o : τ ⊕ κ) (hr : runL step s = some o) :
    match o with
    | .inl t => Runs P U E.m0 (.block i (.loop b)) (frOf E.n h.inn (st s).1) (st s).2 .normal (frOf E.n h.out (so t).1) (so t).2
    | .inr k => Runs P U E.m0 (.block i (.loop b)) (frOf E.n h.inn (st s).1) (st s).2 .ret (frOf E.n E.rs (sr k).1) (sr k).2 := by
  -- one round
  have one : ∀ s rd, step s = some rd → ∀ (n : Nat) (W : Heap R) (φ0 : Phi) (w0 : World) (φ : Phi) (w : World) (a : Act) (Q : Exit → Act → World → Prop), W.length = E.m0 → Went U W φ0 w0 (hpL (st s).2) φ w → RelF U φ (hpL (st s).2) w (frOf E.n h.inn (st s).1) a.tmps →
      (match rd with
        | .again s' => ∀ φ' w' a', a'.defers = a.defers → Went U W φ0 w0 (hpL (st s').2) φ' w' → RelF U φ' (hpL (st s').2) w' (frOf E.n h.inn (st s').1) a'.tmps → Code.rounds P b (Exit.inBlock i Q) n a' w'
        | .exit t => ∀ φ' w' a', a'.defers = a.defers → Went U W φ0 w0 (hpL (so t).2) φ' w' → RelF U φ' (hpL (so t).2) w' (frOf E.n h.out (so t).1) a'.tmps → Q .normal a' w'
        | .ret k => ∀ φ' w' a', a'.defers = a.defers → Went U W φ0 w0 (hpL (sr k).2) φ' w' → RelF U φ' (hpL (sr k).2) w' (frOf E.n E.rs (sr k).1) a'.tmps → Q .ret a' w'
        | .stuck => False) → Code.rounds P b (Exit.inBlock i Q) (n + 1) a w := by
    intro s rd hq n W φ0 w0 φ w a Q hW hg hf hgo
    have he := hstep s (Nat × List V × Heap R) (fun vs L => some (0, vs, L)) (fun vs L => some (1, vs, L)) (fun vs L => some (2, vs, L))
    rw [hq] at he
    cases rd with
    | stuck => exact hgo.elim
    | again s' =>
      simp only [Option.bind_some, rndE] at he hgo
      unfold evRound at he
      obtain ⟨e, fr', L', h1, h2, h3⟩ := evC_ok hT hm hnl hTab b hLb _ _ _ _ (frOf_len ..) he
      rw [rounds_succ]
      cases e with
      | normal =>
        obtain ⟨vs, L2, g1, g2⟩ := canonS_ok (U := U) h1
        simp at g1; obtain ⟨rfl, rfl⟩ := g1
        refine h3 W φ0 w0 φ w a _ hW hg hf fun φ' w' a' hd hg' hf' => ?_
        obtain ⟨φ2, k1, k2, _⟩ := g2 W φ0 w0 φ' w' a'.tmps hW hg' hf'
        rw [h2] at k2
        exact hgo φ2 w' a' hd k1 k2
      | exit j =>
        simp only at h1
        split at h1
        · obtain ⟨vs, L2, g1, _⟩ := canonS_ok (U := U) h1
          simp at g1
        · simp at h1
      | ret =>
        obtain ⟨vs, L2, g1, _⟩ := canonS_ok (U := U) h1
        simp at g1
    | exit t =>
      simp only [Option.bind_some, rndE] at he hgo
      unfold evRound at he
      obtain ⟨e, fr', L', h1, h2, h3⟩ := evC_ok hT hm hnl hTab b hLb _ _ _ _ (frOf_len ..) he
      rw [rounds_succ]
      cases e with
      | normal =>
        obtain ⟨vs, L2, g1, _⟩ := canonS_ok (U := U) h1
        simp at g1
      | exit j =>
        simp only at h1
        split at h1
        · rename_i ej
          subst ej
          obtain ⟨vs, L2, g1, g2⟩ := canonS_ok (U := U) h1
          simp at g1; obtain ⟨rfl, rfl⟩ := g1
          refine h3 W φ0 w0 φ w a _ hW hg hf fun φ' w' a' hd hg' hf' => ?_
          obtain ⟨φ2, k1, k2, _⟩ := g2 W φ0 w0 φ' w' a'.tmps hW hg' hf'
          rw [h2] at k2
          simp only [exOf, Exit.then, Exit.inBlock, if_true]
          exact hgo φ2 w' a' hd k1 k2
        · simp at h1
      | ret =>
        obtain ⟨vs, L2, g1, _⟩ := canonS_ok (U := U) h1
        simp at g1
    | ret k =>
      simp only [Option.bind_some, rndE] at he hgo
      unfold evRound at he
      obtain ⟨e, fr', L', h1, h2, h3⟩ := evC_ok hT hm hnl hTab b hLb _ _ _ _ (frOf_len ..) he
      rw [rounds_succ]
      cases e with
      | normal =>
        obtain ⟨vs, L2, g1, _⟩ := canonS_ok (U := U) h1
        simp at g1
      | exit j =>
        simp only at h1
        split at h1
        · obtain ⟨vs, L2, g1, _⟩ := canonS_ok (U := U) h1
          simp at g1
        · simp at h1
      | ret =>
        obtain ⟨vs, L2, g1, g2⟩ := canonS_ok (U := U) h1
        simp at g1; obtain ⟨rfl, rfl⟩ := g1
        refine h3 W φ0 w0 φ w a _ hW hg hf fun φ' w' a' hd hg' hf' => ?_
        obtain ⟨φ2, k1, k2, _⟩ := g2 W φ0 w0 φ' w' a'.tmps hW hg' hf'
        rw [h2] at k2
        exact hgo φ2 w' a' hd k1 k2
  -- all rounds
  have all : ∀ (n : Nat) s o, runN step n s = some o → ∀ (W : Heap R) (φ0 : Phi) (w0 : World) (φ : Phi) (w : World) (a : Act) (Q : Exit → Act → World → Prop), W.length = E.m0 → Went U W φ0 w0 (hpL (st s).2) φ w → RelF U φ (hpL (st s).2) w (frOf E.n h.inn (st s).1) a.tmps →
      (match o with
        | .inl t => ∀ φ' w' a', a'.defers = a.defers → Went U W φ0 w0 (hpL (so t).2) φ' w' → RelF U φ' (hpL (so t).2) w' (frOf E.n h.out (so t).1) a'.tmps → Q .normal a' w'
        | .inr k => ∀ φ' w' a', a'.defers = a.defers → Went U W φ0 w0 (hpL (sr k).2) φ' w' → RelF U φ' (hpL (sr k).2) w' (frOf E.n E.rs (sr k).1) a'.tmps → Q .ret a' w') → Code.rounds P b (Exit.inBlock i Q) n a w := by
    intro n
    induction n with
    | zero => intro s o hr; simp [runN] at hr
    | succ n ih =>
      intro s o hr W φ0 w0 φ w a Q hW hg hf hgo
      unfold runN at hr
      cases hq : step s with
      | none => rw [hq] at hr; simp at hr
      | some rd =>
        rw [hq] at hr
        simp only [Option.bind_some] at hr
        refine one s rd hq n W φ0 w0 φ w a Q hW hg hf ?_
        cases rd with
        | stuck => simp [rndE] at hr
        | again s' =>
          simp only
          intro φ' w' a' hd hg' hf'
          refine ih s' o hr W φ0 w0 φ' w' a' Q hW hg' hf' ?_
          cases o with
          | inl t => exact fun φ2 w2 a2 hd2 => hgo φ2 w2 a2 (hd2.trans hd)
          | inr k => exact fun φ2 w2 a2 hd2 => hgo φ2 w2 a2 (hd2.trans hd)
        | exit t => simp [rndE] at hr; subst hr; exact hgo
        | ret k => simp [rndE] at hr; subst hr; exact hgo
  obtain ⟨n, hn⟩ := runL_some.1 hr
  cases o with
  | inl t => exact fun W φ0 w0 φ w a Q hW hg hf hQ => wp_block (wp_loop_rounds n (all n s _ hn W φ0 w0 φ w a Q hW hg hf hQ))
  | inr k => exact fun W φ0 w0 φ w a Q hW hg hf hQ => wp_block (wp_loop_rounds n (all n s _ hn W φ0 w0 φ w a Q hW hg hf hQ))

/-- A loop that nothing is returned from. -/
noncomputable def loopX {π σ τ : Type} (inn out : List Nat) (dec : List V → Heap R → Option (π × σ)) (step : π → σ → Option (Rnd σ τ Unit)) (so : π → τ → List V × Heap R) : LoopH R :=
  ⟨inn, out, fun _ vs L Kx _ => (dec vs L).bind fun q => (runX (step q.1) q.2).bind fun t => Kx (so q.1 t).1 (so q.1 t).2⟩
/-- A loop that may return. -/
noncomputable def loopR {π σ τ κ : Type} (inn out : List Nat) (dec : List V → Heap R → Option (π × σ)) (step : π → σ → Option (Rnd σ τ κ)) (so : π → τ → List V × Heap R) (sr : π → κ → List V × Heap R) : LoopH R :=
  ⟨inn, out, fun _ vs L Kx Kr => (dec vs L).bind fun q => (runL (step q.1) q.2).bind fun o => sumK o (fun t => Kx (so q.1 t).1 (so q.1 t).2) (fun k => Kr (sr q.1 k).1 (sr q.1 k).2)⟩
theorem loopR_ok (hT : TagOk P U tagT) (hm : P.follows .mixedOrders = true) {E : Env R} (hnl : E.nl = false) (hTab : TabOk P U E.T) {i : Nat} {b : Code} (hLb : LoopsOk P U E b) {π σ τ κ : Type} {inn out : List Nat}
    {dec : List V → Heap R → Option (π × σ)} {step : π → σ → Option (Rnd σ τ κ)} {so : π → τ → List V × Heap R} {sr : π → κ → List V × Heap R} (st : π → σ → List V × Heap R)
    (hdec : ∀ vs L p s, dec vs L = some (p, s) → st p s = (vs, L))
    (hstep : ∀ p s (ρ : Type) (again Kx Kr : List V → Heap R → Option ρ), evRound U E i (loopR inn out dec step so sr) (compC P tagT b) again (st p s).1 (st p s).2 Kx Kr = (step p s).bind (rndE (fun s' => again (st p s').1 (st p s').2) (fun t => Kx (so p t).1 (so p t).2) (fun k => Kr (sr p k).1 (sr p k).2))) :
    LoopOk P U E i b (loopR inn out dec step so sr) := by
  intro ρ vs L Kx Kr r hr
  obtain ⟨⟨p, s⟩, h1, h2⟩ := Option.bind_eq_some_iff.1 hr
  obtain ⟨o, h3, h4⟩ := Option.bind_eq_some_iff.1 h2
  have hst := hdec vs L p s h1
  have e1 : (st p s).1 = vs := by rw [hst]
  have e2 : (st p s).2 = L := by rw [hst]
  have := loop_go hT hm hnl hTab hLb (h := loopR inn out dec step so sr) (st p) (so p) (sr p) (step p) (hstep p) s o h3
  rw [e1, e2] at this
  cases o with
  | inl t => exact .inl ⟨_, _, h4, this⟩
  | inr k => exact .inr ⟨_, _, h4, this⟩
theorem loopX_ok (hT : TagOk P U tagT) (hm : P.follows .mixedOrders = true) {E : Env R} (hnl : E.nl = false) (hTab : TabOk P U E.T) {i : Nat} {b : Code} (hLb : LoopsOk P U E b) {π σ τ : Type} {inn out : List Nat}
    {dec : List V → Heap R → Option (π × σ)} {step : π → σ → Option (Rnd σ τ Unit)} {so : π → τ → List V × Heap R} (st : π → σ → List V × Heap R)
    (hdec : ∀ vs L p s, dec vs L = some (p, s) → st p s = (vs, L))
    (hstep : ∀ p s (ρ : Type) (again Kx Kr : List V → Heap R → Option ρ), evRound U E i (loopX inn out dec step so) (compC P tagT b) again (st p s).1 (st p s).2 Kx Kr = (step p s).bind (rndE (fun s' => again (st p s').1 (st p s').2) (fun t => Kx (so p t).1 (so p t).2) (fun _ => none))) :
    LoopOk P U E i b (loopX inn out dec step so) := by
  intro ρ vs L Kx Kr r hr
  obtain ⟨⟨p, s⟩, h1, h2⟩ := Option.bind_eq_some_iff.1 hr
  obtain ⟨t, h3, h4⟩ := Option.bind_eq_some_iff.1 h2
  obtain ⟨o, h5, h6⟩ := Option.bind_eq_some_iff.1 h3
  have hst := hdec vs L p s h1
  have e1 : (st p s).1 = vs := by rw [hst]
  have e2 : (st p s).2 = L := by rw [hst]
  cases o with
  | inr k => simp [sumK] at h6
  | inl t' =>
    simp [sumK] at h6; subst h6
    -- nothing is returned: whatever it were
    let srE : Empty → List V × Heap R := fun k => k.elim
    have hs' : ∀ s (ρ : Type) (again Kx Kr : List V → Heap R → Option ρ), evRound U E i (loopX inn out dec step so) (compC P tagT b) again (st p s).1 (st p s).2 Kx Kr = (((step p s).bind (rndE (fun s' => some (.again s')) (fun t => some (.exit t)) (fun _ => none)) : Option (Rnd σ τ Empty))).bind (rndE (fun s' => again (st p s').1 (st p s').2) (fun t => Kx (so p t).1 (so p t).2) (fun k => Kr (srE k).1 (srE k).2)) := by
      intro s ρ again Kx Kr
      rw [hstep]
      cases step p s with
      | none => rfl
      | some r => cases r <;> rfl
    have hrun : ∀ (n : Nat) s, runN (step p) n s = some (.inl t') → runN (fun s => ((step p s).bind (rndE (fun s' => some (.again s')) (fun t => some (.exit t)) (fun _ => none)) : Option (Rnd σ τ Empty))) n s = some (.inl t') := by
      intro n
      induction n with
      | zero => intro s h; simp [runN] at h
      | succ n ih =>
        intro s h
        unfold runN at h ⊢
        cases hq : step p s with
        | none => rw [hq] at h; simp at h
        | some rd =>
          rw [hq] at h
          simp only [Option.bind_some] at h ⊢
          cases rd with
          | again s' => exact ih s' h
          | exit t => simpa [rndE] using h
          | ret k => simp [rndE] at h
          | stuck => simp [rndE] at h
    obtain ⟨n, hn⟩ := runL_some.1 h5
    have := loop_go hT hm hnl hTab hLb (h := loopX inn out dec step so) (st p) (so p) srE _ hs' s (.inl t') (runL_some.2 ⟨n, hrun n s hn⟩)
    rw [e1, e2] at this
    exact .inl ⟨_, _, h4, this⟩
end
/-! ### loops that are unrolled -/
section
variable {R : Type} {U : RowU R} {P : Program} {tagT : TypeId → Option Nat} {ρ : Type}
noncomputable def unroll (U : RowU R) (E : Env R) (i : Nat) (inn out : List Nat) (b : SC) (Kx Kr : List V → Heap R → Option ρ) : Nat → List V → Heap R → Option ρ
  | 0, _, _ => none
  | n + 1, vs, L => evRound U E i ⟨inn, out, fun _ _ _ _ _ => none⟩ b (unroll U E i inn out b Kx Kr n) vs L Kx Kr
noncomputable def unrollH (U : RowU R) (E : Env R) (i : Nat) (inn out : List Nat) (b : SC) (n : Nat) : LoopH R := ⟨inn, out, fun _ vs L Kx Kr => unroll U E i inn out b Kx Kr n vs L⟩
theorem unroll_ok (hT : TagOk P U tagT) (hm : P.follows .mixedOrders = true) {E E' : Env R} (hnl : E'.nl = false) (hTab : TabOk P U E'.T) (hn : E'.n = E.n) (hm0 : E'.m0 = E.m0) (hrs : E'.rs = E.rs) {i : Nat} {b : Code} (hLb : LoopsOk P U E' b) {inn out : List Nat} {N : Nat} :
    LoopOk P U E i b (unrollH U E' i inn out (compC P tagT b) N) := by
  have key : ∀ (N : Nat) (ρ : Type) (vs : List V) (L : Heap R) (Kx Kr : List V → Heap R → Option ρ) (r : ρ), unroll U E' i inn out (compC P tagT b) Kx Kr N vs L = some r →
      (∃ os L', Kx os L' = some r ∧ ∀ (W : Heap R) (φ0 : Phi) (w0 : World) (φ : Phi) (w : World) (a : Act) (Q : Exit → Act → World → Prop), W.length = E.m0 → Went U W φ0 w0 (hpL L) φ w → RelF U φ (hpL L) w (frOf E.n inn vs) a.tmps →
        (∀ φ' w' a', a'.defers = a.defers → Went U W φ0 w0 (hpL L') φ' w' → RelF U φ' (hpL L') w' (frOf E.n out os) a'.tmps → Q .normal a' w') → Code.rounds P b (Exit.inBlock i Q) N a w) ∨
      (∃ rs L', Kr rs L' = some r ∧ ∀ (W : Heap R) (φ0 : Phi) (w0 : World) (φ : Phi) (w : World) (a : Act) (Q : Exit → Act → World → Prop), W.length = E.m0 → Went U W φ0 w0 (hpL L) φ w → RelF U φ (hpL L) w (frOf E.n inn vs) a.tmps →
        (∀ φ' w' a', a'.defers = a.defers → Went U W φ0 w0 (hpL L') φ' w' → RelF U φ' (hpL L') w' (frOf E.n E.rs rs) a'.tmps → Q .ret a' w') → Code.rounds P b (Exit.inBlock i Q) N a w) := by
    intro N
    induction N with
    | zero => intro ρ vs L Kx Kr r h; simp [unroll] at h
    | succ N ih =>
      intro ρ vs L Kx Kr r h
      unfold unroll evRound at h
      obtain ⟨e, fr', L', h1, h2, h3⟩ := evC_ok hT hm hnl hTab b hLb _ _ _ _ (frOf_len ..) h
      rw [hn] at h3
      rw [hn] at h2
      cases e with
      | normal =>
        obtain ⟨vs2, L2, g1, g2⟩ := canonS_ok (U := U) h1
        rw [hm0] at g2
        rcases ih ρ vs2 L2 Kx Kr r g1 with ⟨os, L3, q1, q2⟩ | ⟨rs, L3, q1, q2⟩
        · refine .inl ⟨os, L3, q1, fun W φ0 w0 φ w a Q hW hg hf hQ => ?_⟩
          rw [rounds_succ]
          refine h3 W φ0 w0 φ w a _ (by rw [hm0]; exact hW) hg hf fun φ' w' a' hd hg' hf' => ?_
          obtain ⟨φ2, k1, k2, _⟩ := g2 W φ0 w0 φ' w' a'.tmps hW hg' hf'
          rw [h2] at k2
          exact q2 W φ0 w0 φ2 w' a' Q hW k1 k2 fun φ3 w3 a3 hd3 => hQ φ3 w3 a3 (hd3.trans hd)
        · refine .inr ⟨rs, L3, q1, fun W φ0 w0 φ w a Q hW hg hf hQ => ?_⟩
          rw [rounds_succ]
          refine h3 W φ0 w0 φ w a _ (by rw [hm0]; exact hW) hg hf fun φ' w' a' hd hg' hf' => ?_
          obtain ⟨φ2, k1, k2, _⟩ := g2 W φ0 w0 φ' w' a'.tmps hW hg' hf'
          rw [h2] at k2
          exact q2 W φ0 w0 φ2 w' a' Q hW k1 k2 fun φ3 w3 a3 hd3 => hQ φ3 w3 a3 (hd3.trans hd)
      | exit j =>
        simp only at h1
        split at h1
        · rename_i ej
          subst ej
          obtain ⟨vs2, L2, g1, g2⟩ := canonS_ok (U := U) h1
          rw [hm0] at g2
          refine .inl ⟨vs2, L2, g1, fun W φ0 w0 φ w a Q hW hg hf hQ => ?_⟩
          rw [rounds_succ]
          refine h3 W φ0 w0 φ w a _ (by rw [hm0]; exact hW) hg hf fun φ' w' a' hd hg' hf' => ?_
          obtain ⟨φ2, k1, k2, _⟩ := g2 W φ0 w0 φ' w' a'.tmps hW hg' hf'
          rw [h2] at k2
          simp only [exOf, Exit.then, Exit.inBlock, if_true]
          exact hQ φ2 w' a' hd k1 k2
        · simp at h1
      | ret =>
        obtain ⟨vs2, L2, g1, g2⟩ := canonS_ok (U := U) h1
        rw [hm0] at g2
        rw [hrs] at g2
        refine .inr ⟨vs2, L2, g1, fun W φ0 w0 φ w a Q hW hg hf hQ => ?_⟩
        rw [rounds_succ]
        refine h3 W φ0 w0 φ w a _ (by rw [hm0]; exact hW) hg hf fun φ' w' a' hd hg' hf' => ?_
        obtain ⟨φ2, k1, k2, _⟩ := g2 W φ0 w0 φ' w' a'.tmps hW hg' hf'
        rw [h2] at k2
        simp only [exOf, Exit.then, Exit.inBlock]
        exact hQ φ2 w' a' hd k1 k2
  intro ρ vs L Kx Kr r hr
  rcases key N ρ vs L Kx Kr r hr with ⟨os, L', q1, q2⟩ | ⟨rs, L', q1, q2⟩
  · exact .inl ⟨os, L', q1, fun W φ0 w0 φ w a Q hW hg hf hQ => wp_block (wp_loop_rounds N (q2 W φ0 w0 φ w a Q hW hg hf hQ))⟩
  · exact .inr ⟨rs, L', q1, fun W φ0 w0 φ w a Q hW hg hf hQ => wp_block (wp_loop_rounds N (q2 W φ0 w0 φ w a Q hW hg hf hQ))⟩
end
theorem both_self {ρ : Type} (x : Option ρ) : both x x = x := by simp [both]
theorem nilB_zero {ρ : Type} (x y : Option ρ) (h : x = y) : nilB 0 x y = y := by subst h; exact both_self x
theorem nilB_succ {ρ : Type} (n : Nat) (x y : Option ρ) : nilB (n + 1) x y = y := rfl
/-! ### the loops of a body -/
def loopsDeep : Code → List (Nat × Code)
  | .seq a b => loopsDeep a ++ loopsDeep b
  | .cond _ a b => loopsDeep a ++ loopsDeep b
  | .block i (.loop b) => (i, b) :: loopsDeep b
  | .block _ b => loopsDeep b
  | _ => []
def loopAt (c : Code) (i : Nat) : Code := match (loopsDeep c).find? (·.1 == i) with
  | some (_, b) => b
  | none => .skip
section
variable {R : Type} {U : RowU R} {P : Program}
theorem loopsOk_deepN {E : Env R} : ∀ (n : Nat) (c : Code), SizeOf.sizeOf c ≤ n → (∀ i b, (i, b) ∈ loopsDeep c → ∀ j h, E.H.find? (·.1 == i) = some (j, h) → LoopsOk P U E b → LoopOk P U E i b h) → LoopsOk P U E c := by
  intro n
  induction n with
  | zero => intro c hn; cases c <;> simp at hn
  | succ n ih =>
    intro c hn h
    cases c with
    | seq a b =>
      simp at hn
      exact ⟨ih a (by omega) fun i x hx => h i x (by simp [loopsDeep, hx]), ih b (by omega) fun i x hx => h i x (by simp [loopsDeep, hx])⟩
    | cond c a b =>
      simp at hn
      exact ⟨ih a (by omega) fun i x hx => h i x (by simp [loopsDeep, hx]), ih b (by omega) fun i x hx => h i x (by simp [loopsDeep, hx])⟩
    | block i b =>
      simp at hn
      cases b with
      | loop b0 =>
        simp at hn
        exact fun j hh hf => h i b0 (by simp [loopsDeep]) j hh hf (ih b0 (by omega) fun k x hx => h k x (by simp [loopsDeep, hx]))
      | skip => trivial
      | region => trivial
      | seq a b => exact ih (.seq a b) (by omega) fun k x hx => h k x hx
      | cond c a b => exact ih (.cond c a b) (by omega) fun k x hx => h k x hx
      | block j b => exact ih (.block j b) (by omega) fun k x hx => h k x (by simpa [loopsDeep] using hx)
      | rangeFunc => trivial
      | exit => trivial
      | scope => trivial
      | label => trivial
      | goto => trivial
      | ret => trivial
      | refuse => trivial
    | _ => trivial
theorem loopsOk_deep {E : Env R} (c : Code) (h : ∀ i b, (i, b) ∈ loopsDeep c → ∀ j h, E.H.find? (·.1 == i) = some (j, h) → LoopsOk P U E b → LoopOk P U E i b h) : LoopsOk P U E c := loopsOk_deepN _ c (Nat.le_refl _) h
theorem loopAt_of {c : Code} (hn : nodupN ((loopsDeep c).map (·.1)) = true) {i : Nat} {b : Code} (h : (i, b) ∈ loopsDeep c) : b = loopAt c i := by
  unfold loopAt
  generalize loopsDeep c = l at hn h
  induction l with
  | nil => simp at h
  | cons x xs ih =>
    simp only [List.map_cons, nodupN, Bool.and_eq_true, Bool.not_eq_true'] at hn
    rcases List.mem_cons.1 h with rfl | h
    · simp
    · have hne : (x.1 == i) = false := by
        rw [beq_eq_false_iff_ne]
        intro e
        have : (xs.map (·.1)).contains x.1 = true := by
          rw [List.contains_iff_mem, e]
          exact List.mem_map.2 ⟨(i, b), h, rfl⟩
        rw [this] at hn
        exact absurd hn.1 (by simp)
      rw [List.find?_cons, hne]
      exact ih hn.2 h
end
end Go.Eng
