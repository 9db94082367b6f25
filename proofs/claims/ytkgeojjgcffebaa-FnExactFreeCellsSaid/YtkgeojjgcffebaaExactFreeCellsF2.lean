/- Functions of the program, as the evaluator tells them: printed by a program of ours. -/
import Derived.Test.YtkgeojjgcffebaaExactFreeCellsFS
import Derived.Test.YtkgeojjgcffebaaExactFreeCellsF0
import Derived.Test.YtkgeojjgcffebaaExactFreeCellsF1
set_option linter.unusedVariables false
set_option linter.unusedSimpArgs false
set_option maxRecDepth 20000
namespace Go.Eng
open Go.Proofs
/-! loop.example/g00249/laws.eqBoolS -/
noncomputable def laws_eqBoolS_L0_K (l0 : List Bool) (l1 : List Bool) (n2 : Int) {ρ : Type} (A : Int → Option ρ) (X : Unit → Option ρ) (R : Unit → Option ρ) : Option ρ :=
  cond (decide (n2 < (((l0.length : Nat) : Int))))
    (cond (decide (0 ≤ n2)) (cond (decide (n2 < (((l0.length : Nat) : Int)))) (cond (decide (0 ≤ n2)) (cond (decide (n2 < (((l1.length : Nat) : Int)))) (cond (!((List.getD l0 (n2.toNat) false) == (List.getD l1 (n2.toNat) false)))
      (R ())
      (A (w64 (n2 + 1)))) none) none) none) none)
    (X ())
noncomputable def laws_eqBoolS_L0_step (l0 : List Bool) (l1 : List Bool) (s : Int) : Option (Rnd (Int) (Unit) (Unit)) := laws_eqBoolS_L0_K l0 l1 s (fun s => some (.again s)) (fun t => some (.exit t)) (fun k => some (.ret k))
theorem laws_eqBoolS_L0_bind (l0 : List Bool) (l1 : List Bool) (s : Int) {ρ : Type} (A : Int → Option ρ) (X : Unit → Option ρ) (R : Unit → Option ρ) : laws_eqBoolS_L0_K l0 l1 s A X R = (laws_eqBoolS_L0_step l0 l1 s).bind (rndE A X R) := by
  simp only [laws_eqBoolS_L0_step, laws_eqBoolS_L0_K, Option.bind_assoc, Option.bind_some, Option.bind_none, cond_bind, sumK_bind, rndE_again, rndE_exit, rndE_ret]
def laws_eqBoolS_L0_st (p : List Bool × List Bool) (s : Int) : List V × Heap Row := ([.c (.sl 0 0), .c (.sl 1 0), .c (.int .i64 (s))], [⟨.row ⟨.bool, p.1⟩, 0, 1⟩, ⟨.row ⟨.bool, p.2⟩, 0, 1⟩])
def laws_eqBoolS_L0_so (p : List Bool × List Bool) (t : Unit) : List V × Heap Row := ([], [⟨.row ⟨.bool, p.1⟩, 0, 1⟩, ⟨.row ⟨.bool, p.2⟩, 0, 1⟩])
def laws_eqBoolS_L0_sr (p : List Bool × List Bool) (k : Unit) : List V × Heap Row := ([.c (.bool false)], [⟨.row ⟨.bool, p.1⟩, 0, 1⟩, ⟨.row ⟨.bool, p.2⟩, 0, 1⟩])
def laws_eqBoolS_L0_D : List V → Heap Row → Option ((List Bool × List Bool) × (Int))
  | [.c (.sl 0 0), .c (.sl 1 0), .c (.int .i64 v1)], [⟨.row ⟨.bool, v2⟩, 0, 1⟩, ⟨.row ⟨.bool, v3⟩, 0, 1⟩] => some ((v2, v3), (v1))
  | _, _ => none
theorem laws_eqBoolS_L0_D_ok (vs : List V) (L : Heap Row) (p : List Bool × List Bool) (s : Int) (h : laws_eqBoolS_L0_D vs L = some (p, s)) : laws_eqBoolS_L0_st p s = (vs, L) := by
  unfold laws_eqBoolS_L0_D at h
  split at h
  · simp at h; obtain ⟨rfl, rfl⟩ := h; rfl
  · simp at h
noncomputable def laws_eqBoolS_L0_H : LoopH Row := loopR [0, 1, 5] [] laws_eqBoolS_L0_D (fun p => laws_eqBoolS_L0_step (p.1) (p.2)) laws_eqBoolS_L0_so laws_eqBoolS_L0_sr
theorem laws_eqBoolS_L0_nf (p : List Bool × List Bool) (s : Int) (ρ : Type) (again Kx Kr : List V → Heap Row → Option ρ) : evRound rowU (envOf 209 2 [] [(0, laws_eqBoolS_L0_H)]) 0 laws_eqBoolS_L0_H (loopC 209 0) again (laws_eqBoolS_L0_st p s).1 (laws_eqBoolS_L0_st p s).2 Kx Kr = laws_eqBoolS_L0_K (p.1) (p.2) s (fun s => again (laws_eqBoolS_L0_st p s).1 (laws_eqBoolS_L0_st p s).2) (fun t => Kx (laws_eqBoolS_L0_so p t).1 (laws_eqBoolS_L0_so p t).2) (fun k => Kr (laws_eqBoolS_L0_sr p k).1 (laws_eqBoolS_L0_sr p k).2) := by kernel_rfl
theorem laws_eqBoolS_L0_ok (hb : LoopsOk Try.prog rowU (envOf 209 2 [] [(0, laws_eqBoolS_L0_H)]) (loopAt (codeP 209) 0)) : LoopOk Try.prog rowU (envOf 209 2 [] [(0, laws_eqBoolS_L0_H)]) 0 (loopAt (codeP 209) 0) laws_eqBoolS_L0_H :=
  loopR_ok tagOk mixed envNl (envT TabOk.nil) hb laws_eqBoolS_L0_st laws_eqBoolS_L0_D_ok fun p s ρ A Kx Kr => (laws_eqBoolS_L0_nf p s ρ A Kx Kr).trans (laws_eqBoolS_L0_bind (p.1) (p.2) s _ _ _)
noncomputable def laws_eqBoolS_K (x0 : List Bool) (x1 : List Bool) {ρ : Type} (K : Bool → Option ρ) : Option ρ :=
  cond ((((x0.length : Nat) : Int)) != (((x1.length : Nat) : Int)))
    (K false)
    (Option.bind (runL (laws_eqBoolS_L0_step x0 x1) 0) fun ot1 => sumK ot1
      (fun t1 => K true)
      (fun k2 => K false))
noncomputable def laws_eqBoolS (x0 : List Bool) (x1 : List Bool) : Option (Bool) := laws_eqBoolS_K x0 x1 some
theorem laws_eqBoolS_bind (x0 : List Bool) (x1 : List Bool) {ρ : Type} (K : Bool → Option ρ) : laws_eqBoolS_K x0 x1 K = (laws_eqBoolS x0 x1).bind K := by
  simp only [laws_eqBoolS, laws_eqBoolS_K, Option.bind_assoc, Option.bind_some, Option.bind_none, cond_bind, sumK_bind]
noncomputable def laws_eqBoolS_E : Env Row := envN false 209 2 [] [(0, laws_eqBoolS_L0_H)]
theorem laws_eqBoolS_nf (x0 : List Bool) (x1 : List Bool) (ρ : Type) (K : V → Heap Row → Option ρ) : evBody rowU laws_eqBoolS_E (bodyC 209) [.c (.sl 0 0), .c (.sl 1 0)] [⟨.row ⟨.bool, x0⟩, 0, 1⟩, ⟨.row ⟨.bool, x1⟩, 0, 1⟩] K = laws_eqBoolS_K x0 x1 (fun r => K (.c (.bool r)) [⟨.row ⟨.bool, x0⟩, 0, 1⟩, ⟨.row ⟨.bool, x1⟩, 0, 1⟩]) := by kernel_rfl
def laws_eqBoolS_D : List V → Heap Row → Option (List Bool × List Bool)
  | [.c (.sl 0 0), .c (.sl 1 0)], [⟨.row ⟨.bool, v1⟩, 0, 1⟩, ⟨.row ⟨.bool, v2⟩, 0, 1⟩] => some (v1, v2)
  | _, _ => none
theorem laws_eqBoolS_D_ok {vs : List V} {W : Heap Row} {a : List Bool × List Bool} (h : laws_eqBoolS_D vs W = some a) : vs = [.c (.sl 0 0), .c (.sl 1 0)] ∧ W = [⟨.row ⟨.bool, a.1⟩, 0, 1⟩, ⟨.row ⟨.bool, a.2⟩, 0, 1⟩] := by
  unfold laws_eqBoolS_D at h
  split at h
  · simp at h; subst h; exact ⟨rfl, rfl⟩
  · simp at h
noncomputable def laws_eqBoolS_C : Callee Row := ⟨[(false, 0), (false, 0)], fun _ vs W K => (laws_eqBoolS_D vs W).bind fun a => (laws_eqBoolS a.1 a.2).bind fun r => K (.c (.bool r)) [⟨.row ⟨.bool, a.1⟩, 0, 1⟩, ⟨.row ⟨.bool, a.2⟩, 0, 1⟩]⟩
theorem laws_eqBoolS_ok : CalleeOk Try.prog rowU 209 laws_eqBoolS_C := by
  refine calleeP (nl := false) (m0 := 2) (T := []) (H := [(0, laws_eqBoolS_L0_H)]) TabOk.nil (by kernel_rfl) (by kernel_rfl) (fun p hp hb => by
    simp only [List.mem_cons, List.not_mem_nil, or_false] at hp
    subst hp
    exact laws_eqBoolS_L0_ok hb) fun ρ vs W K r h => ?_
  obtain ⟨a, ha, h1⟩ := Option.bind_eq_some_iff.1 h
  clear h
  obtain ⟨rfl, rfl⟩ := laws_eqBoolS_D_ok ha
  obtain ⟨q, hq, h2⟩ := Option.bind_eq_some_iff.1 h1
  exact ⟨_, _, h2, (laws_eqBoolS_nf (a.1) (a.2) _ _).trans ((laws_eqBoolS_bind (a.1) (a.2) _).trans (by rw [hq]; rfl))⟩
/-! loop.example/g00249/laws.eqMemory -/
noncomputable def laws_eqMemory_K (x0 : GMemory) (x1 : GMemory) {ρ : Type} (K : Bool → Option ρ) : Option ρ :=
  Option.bind (laws_eqWordS x0.words x1.words) fun r1 =>
  cond (!r1)
    (K false)
    (Option.bind (laws_eqBoolS x0.gone x1.gone) fun r2 =>
    cond (!r2)
      (K false)
      (K true))
noncomputable def laws_eqMemory (x0 : GMemory) (x1 : GMemory) : Option (Bool) := laws_eqMemory_K x0 x1 some
theorem laws_eqMemory_bind (x0 : GMemory) (x1 : GMemory) {ρ : Type} (K : Bool → Option ρ) : laws_eqMemory_K x0 x1 K = (laws_eqMemory x0 x1).bind K := by
  simp only [laws_eqMemory, laws_eqMemory_K, Option.bind_assoc, Option.bind_some, Option.bind_none, cond_bind, sumK_bind]
noncomputable def laws_eqMemory_E : Env Row := envN false 136 4 [(208, laws_eqWordS_C), (209, laws_eqBoolS_C)] []
theorem laws_eqMemory_nf (x0 : GMemory) (x1 : GMemory) (ρ : Type) (K : V → Heap Row → Option ρ) : evBody rowU laws_eqMemory_E (bodyC 136) [.a [.sl 0 0, .sl 1 0], .a [.sl 2 0, .sl 3 0]] [⟨.row ⟨.word, x0.words⟩, 0, 1⟩, ⟨.row ⟨.bool, x0.gone⟩, 0, 1⟩, ⟨.row ⟨.word, x1.words⟩, 0, 1⟩, ⟨.row ⟨.bool, x1.gone⟩, 0, 1⟩] K = laws_eqMemory_K x0 x1 (fun r => K (.c (.bool r)) [⟨.row ⟨.word, x0.words⟩, 0, 1⟩, ⟨.row ⟨.bool, x0.gone⟩, 0, 1⟩, ⟨.row ⟨.word, x1.words⟩, 0, 1⟩, ⟨.row ⟨.bool, x1.gone⟩, 0, 1⟩]) := by kernel_rfl
def laws_eqMemory_D : List V → Heap Row → Option (GMemory × GMemory)
  | [.a (.sl 0 0 :: .sl 1 0 :: []), .a (.sl 2 0 :: .sl 3 0 :: [])], [⟨.row ⟨.word, v1⟩, 0, 1⟩, ⟨.row ⟨.bool, v2⟩, 0, 1⟩, ⟨.row ⟨.word, v3⟩, 0, 1⟩, ⟨.row ⟨.bool, v4⟩, 0, 1⟩] => some (⟨v1, v2⟩, ⟨v3, v4⟩)
  | _, _ => none
theorem laws_eqMemory_D_ok {vs : List V} {W : Heap Row} {a : GMemory × GMemory} (h : laws_eqMemory_D vs W = some a) : vs = [.a [.sl 0 0, .sl 1 0], .a [.sl 2 0, .sl 3 0]] ∧ W = [⟨.row ⟨.word, (a.1).words⟩, 0, 1⟩, ⟨.row ⟨.bool, (a.1).gone⟩, 0, 1⟩, ⟨.row ⟨.word, (a.2).words⟩, 0, 1⟩, ⟨.row ⟨.bool, (a.2).gone⟩, 0, 1⟩] := by
  unfold laws_eqMemory_D at h
  split at h
  · simp at h; subst h; exact ⟨rfl, rfl⟩
  · simp at h
noncomputable def laws_eqMemory_C : Callee Row := ⟨[(false, 0), (false, 0), (false, 0), (false, 0)], fun _ vs W K => (laws_eqMemory_D vs W).bind fun a => (laws_eqMemory a.1 a.2).bind fun r => K (.c (.bool r)) [⟨.row ⟨.word, (a.1).words⟩, 0, 1⟩, ⟨.row ⟨.bool, (a.1).gone⟩, 0, 1⟩, ⟨.row ⟨.word, (a.2).words⟩, 0, 1⟩, ⟨.row ⟨.bool, (a.2).gone⟩, 0, 1⟩]⟩
theorem laws_eqMemory_ok : CalleeOk Try.prog rowU 136 laws_eqMemory_C := by
  refine calleeP (nl := false) (m0 := 4) (T := [(208, laws_eqWordS_C), (209, laws_eqBoolS_C)]) (H := []) (TabOk.cons laws_eqWordS_ok (TabOk.cons laws_eqBoolS_ok TabOk.nil)) (by kernel_rfl) (by kernel_rfl) (fun p hp => nomatch hp) fun ρ vs W K r h => ?_
  obtain ⟨a, ha, h1⟩ := Option.bind_eq_some_iff.1 h
  clear h
  obtain ⟨rfl, rfl⟩ := laws_eqMemory_D_ok ha
  obtain ⟨q, hq, h2⟩ := Option.bind_eq_some_iff.1 h1
  exact ⟨_, _, h2, (laws_eqMemory_nf (a.1) (a.2) _ _).trans ((laws_eqMemory_bind (a.1) (a.2) _).trans (by rw [hq]; rfl))⟩
/-! loop.example/g00249/laws.eqSpan -/
def laws_eqSpan_K (x0 : GSpan) (x1 : GSpan) {ρ : Type} (K : Bool → Option ρ) : Option ρ :=
  cond (x0.at_ != x1.at_)
    (K false)
    (cond (x0.len != x1.len)
      (K false)
      (K true))
def laws_eqSpan (x0 : GSpan) (x1 : GSpan) : Option (Bool) := laws_eqSpan_K x0 x1 some
theorem laws_eqSpan_bind (x0 : GSpan) (x1 : GSpan) {ρ : Type} (K : Bool → Option ρ) : laws_eqSpan_K x0 x1 K = (laws_eqSpan x0 x1).bind K := by
  simp only [laws_eqSpan, laws_eqSpan_K, Option.bind_assoc, Option.bind_some, Option.bind_none, cond_bind, sumK_bind]
noncomputable def laws_eqSpan_E : Env Row := envN false 210 0 [] []
theorem laws_eqSpan_nf (x0 : GSpan) (x1 : GSpan) (ρ : Type) (K : V → Heap Row → Option ρ) : evBody rowU laws_eqSpan_E (bodyC 210) [.a [.int .i64 x0.at_, .int .i64 x0.len], .a [.int .i64 x1.at_, .int .i64 x1.len]] [] K = laws_eqSpan_K x0 x1 (fun r => K (.c (.bool r)) []) := by kernel_rfl
def laws_eqSpan_D : List V → Heap Row → Option (GSpan × GSpan)
  | [.a (.int .i64 v1 :: .int .i64 v2 :: []), .a (.int .i64 v3 :: .int .i64 v4 :: [])], [] => some (⟨v1, v2⟩, ⟨v3, v4⟩)
  | _, _ => none
theorem laws_eqSpan_D_ok {vs : List V} {W : Heap Row} {a : GSpan × GSpan} (h : laws_eqSpan_D vs W = some a) : vs = [.a [.int .i64 (a.1).at_, .int .i64 (a.1).len], .a [.int .i64 (a.2).at_, .int .i64 (a.2).len]] ∧ W = [] := by
  unfold laws_eqSpan_D at h
  split at h
  · simp at h; subst h; exact ⟨rfl, rfl⟩
  · simp at h
def laws_eqSpan_C : Callee Row := ⟨[], fun _ vs W K => (laws_eqSpan_D vs W).bind fun a => (laws_eqSpan a.1 a.2).bind fun r => K (.c (.bool r)) []⟩
theorem laws_eqSpan_ok : CalleeOk Try.prog rowU 210 laws_eqSpan_C := by
  refine calleeP (nl := false) (m0 := 0) (T := []) (H := []) TabOk.nil (by kernel_rfl) (by kernel_rfl) (fun p hp => nomatch hp) fun ρ vs W K r h => ?_
  obtain ⟨a, ha, h1⟩ := Option.bind_eq_some_iff.1 h
  clear h
  obtain ⟨rfl, rfl⟩ := laws_eqSpan_D_ok ha
  obtain ⟨q, hq, h2⟩ := Option.bind_eq_some_iff.1 h1
  exact ⟨_, _, h2, (laws_eqSpan_nf (a.1) (a.2) _ _).trans ((laws_eqSpan_bind (a.1) (a.2) _).trans (by rw [hq]; rfl))⟩
/-! loop.example/g00249/laws.eqSpanS -/
noncomputable def laws_eqSpanS_L0_K (l0 : List GSpan) (l1 : List GSpan) (n2 : Int) {ρ : Type} (A : Int → Option ρ) (X : Unit → Option ρ) (R : Unit → Option ρ) : Option ρ :=
  cond (decide (n2 < (((l0.length : Nat) : Int))))
    (cond (decide (0 ≤ n2)) (cond (decide (n2 < (((l0.length : Nat) : Int)))) (cond (decide (0 ≤ n2)) (cond (decide (n2 < (((l1.length : Nat) : Int)))) (Option.bind (laws_eqSpan (List.getD l0 (n2.toNat) (default)) (List.getD l1 (n2.toNat) (default))) fun r1 =>
    cond (!r1)
      (R ())
      (A (w64 (n2 + 1)))) none) none) none) none)
    (X ())
noncomputable def laws_eqSpanS_L0_step (l0 : List GSpan) (l1 : List GSpan) (s : Int) : Option (Rnd (Int) (Unit) (Unit)) := laws_eqSpanS_L0_K l0 l1 s (fun s => some (.again s)) (fun t => some (.exit t)) (fun k => some (.ret k))
theorem laws_eqSpanS_L0_bind (l0 : List GSpan) (l1 : List GSpan) (s : Int) {ρ : Type} (A : Int → Option ρ) (X : Unit → Option ρ) (R : Unit → Option ρ) : laws_eqSpanS_L0_K l0 l1 s A X R = (laws_eqSpanS_L0_step l0 l1 s).bind (rndE A X R) := by
  simp only [laws_eqSpanS_L0_step, laws_eqSpanS_L0_K, Option.bind_assoc, Option.bind_some, Option.bind_none, cond_bind, sumK_bind, rndE_again, rndE_exit, rndE_ret]
def laws_eqSpanS_L0_st (p : List GSpan × List GSpan) (s : Int) : List V × Heap Row := ([.c (.sl 0 0), .c (.sl 1 0), .c (.int .i64 (s))], [⟨.row ⟨.span, p.1⟩, 0, 1⟩, ⟨.row ⟨.span, p.2⟩, 0, 1⟩])
def laws_eqSpanS_L0_so (p : List GSpan × List GSpan) (t : Unit) : List V × Heap Row := ([], [⟨.row ⟨.span, p.1⟩, 0, 1⟩, ⟨.row ⟨.span, p.2⟩, 0, 1⟩])
def laws_eqSpanS_L0_sr (p : List GSpan × List GSpan) (k : Unit) : List V × Heap Row := ([.c (.bool false)], [⟨.row ⟨.span, p.1⟩, 0, 1⟩, ⟨.row ⟨.span, p.2⟩, 0, 1⟩])
def laws_eqSpanS_L0_D : List V → Heap Row → Option ((List GSpan × List GSpan) × (Int))
  | [.c (.sl 0 0), .c (.sl 1 0), .c (.int .i64 v1)], [⟨.row ⟨.span, v2⟩, 0, 1⟩, ⟨.row ⟨.span, v3⟩, 0, 1⟩] => some ((v2, v3), (v1))
  | _, _ => none
theorem laws_eqSpanS_L0_D_ok (vs : List V) (L : Heap Row) (p : List GSpan × List GSpan) (s : Int) (h : laws_eqSpanS_L0_D vs L = some (p, s)) : laws_eqSpanS_L0_st p s = (vs, L) := by
  unfold laws_eqSpanS_L0_D at h
  split at h
  · simp at h; obtain ⟨rfl, rfl⟩ := h; rfl
  · simp at h
noncomputable def laws_eqSpanS_L0_H : LoopH Row := loopR [0, 1, 5] [] laws_eqSpanS_L0_D (fun p => laws_eqSpanS_L0_step (p.1) (p.2)) laws_eqSpanS_L0_so laws_eqSpanS_L0_sr
theorem laws_eqSpanS_L0_nf (p : List GSpan × List GSpan) (s : Int) (ρ : Type) (again Kx Kr : List V → Heap Row → Option ρ) : evRound rowU (envOf 137 2 [(210, laws_eqSpan_C)] [(0, laws_eqSpanS_L0_H)]) 0 laws_eqSpanS_L0_H (loopC 137 0) again (laws_eqSpanS_L0_st p s).1 (laws_eqSpanS_L0_st p s).2 Kx Kr = laws_eqSpanS_L0_K (p.1) (p.2) s (fun s => again (laws_eqSpanS_L0_st p s).1 (laws_eqSpanS_L0_st p s).2) (fun t => Kx (laws_eqSpanS_L0_so p t).1 (laws_eqSpanS_L0_so p t).2) (fun k => Kr (laws_eqSpanS_L0_sr p k).1 (laws_eqSpanS_L0_sr p k).2) := by kernel_rfl
theorem laws_eqSpanS_L0_ok (hb : LoopsOk Try.prog rowU (envOf 137 2 [(210, laws_eqSpan_C)] [(0, laws_eqSpanS_L0_H)]) (loopAt (codeP 137) 0)) : LoopOk Try.prog rowU (envOf 137 2 [(210, laws_eqSpan_C)] [(0, laws_eqSpanS_L0_H)]) 0 (loopAt (codeP 137) 0) laws_eqSpanS_L0_H :=
  loopR_ok tagOk mixed envNl (envT (TabOk.cons laws_eqSpan_ok TabOk.nil)) hb laws_eqSpanS_L0_st laws_eqSpanS_L0_D_ok fun p s ρ A Kx Kr => (laws_eqSpanS_L0_nf p s ρ A Kx Kr).trans (laws_eqSpanS_L0_bind (p.1) (p.2) s _ _ _)
noncomputable def laws_eqSpanS_K (x0 : List GSpan) (x1 : List GSpan) {ρ : Type} (K : Bool → Option ρ) : Option ρ :=
  cond ((((x0.length : Nat) : Int)) != (((x1.length : Nat) : Int)))
    (K false)
    (Option.bind (runL (laws_eqSpanS_L0_step x0 x1) 0) fun ot2 => sumK ot2
      (fun t2 => K true)
      (fun k3 => K false))
noncomputable def laws_eqSpanS (x0 : List GSpan) (x1 : List GSpan) : Option (Bool) := laws_eqSpanS_K x0 x1 some
theorem laws_eqSpanS_bind (x0 : List GSpan) (x1 : List GSpan) {ρ : Type} (K : Bool → Option ρ) : laws_eqSpanS_K x0 x1 K = (laws_eqSpanS x0 x1).bind K := by
  simp only [laws_eqSpanS, laws_eqSpanS_K, Option.bind_assoc, Option.bind_some, Option.bind_none, cond_bind, sumK_bind]
noncomputable def laws_eqSpanS_E : Env Row := envN false 137 2 [(210, laws_eqSpan_C)] [(0, laws_eqSpanS_L0_H)]
theorem laws_eqSpanS_nf (x0 : List GSpan) (x1 : List GSpan) (ρ : Type) (K : V → Heap Row → Option ρ) : evBody rowU laws_eqSpanS_E (bodyC 137) [.c (.sl 0 0), .c (.sl 1 0)] [⟨.row ⟨.span, x0⟩, 0, 1⟩, ⟨.row ⟨.span, x1⟩, 0, 1⟩] K = laws_eqSpanS_K x0 x1 (fun r => K (.c (.bool r)) [⟨.row ⟨.span, x0⟩, 0, 1⟩, ⟨.row ⟨.span, x1⟩, 0, 1⟩]) := by kernel_rfl
def laws_eqSpanS_D : List V → Heap Row → Option (List GSpan × List GSpan)
  | [.c (.sl 0 0), .c (.sl 1 0)], [⟨.row ⟨.span, v1⟩, 0, 1⟩, ⟨.row ⟨.span, v2⟩, 0, 1⟩] => some (v1, v2)
  | _, _ => none
theorem laws_eqSpanS_D_ok {vs : List V} {W : Heap Row} {a : List GSpan × List GSpan} (h : laws_eqSpanS_D vs W = some a) : vs = [.c (.sl 0 0), .c (.sl 1 0)] ∧ W = [⟨.row ⟨.span, a.1⟩, 0, 1⟩, ⟨.row ⟨.span, a.2⟩, 0, 1⟩] := by
  unfold laws_eqSpanS_D at h
  split at h
  · simp at h; subst h; exact ⟨rfl, rfl⟩
  · simp at h
noncomputable def laws_eqSpanS_C : Callee Row := ⟨[(false, 0), (false, 0)], fun _ vs W K => (laws_eqSpanS_D vs W).bind fun a => (laws_eqSpanS a.1 a.2).bind fun r => K (.c (.bool r)) [⟨.row ⟨.span, a.1⟩, 0, 1⟩, ⟨.row ⟨.span, a.2⟩, 0, 1⟩]⟩
theorem laws_eqSpanS_ok : CalleeOk Try.prog rowU 137 laws_eqSpanS_C := by
  refine calleeP (nl := false) (m0 := 2) (T := [(210, laws_eqSpan_C)]) (H := [(0, laws_eqSpanS_L0_H)]) (TabOk.cons laws_eqSpan_ok TabOk.nil) (by kernel_rfl) (by kernel_rfl) (fun p hp hb => by
    simp only [List.mem_cons, List.not_mem_nil, or_false] at hp
    subst hp
    exact laws_eqSpanS_L0_ok hb) fun ρ vs W K r h => ?_
  obtain ⟨a, ha, h1⟩ := Option.bind_eq_some_iff.1 h
  clear h
  obtain ⟨rfl, rfl⟩ := laws_eqSpanS_D_ok ha
  obtain ⟨q, hq, h2⟩ := Option.bind_eq_some_iff.1 h1
  exact ⟨_, _, h2, (laws_eqSpanS_nf (a.1) (a.2) _ _).trans ((laws_eqSpanS_bind (a.1) (a.2) _).trans (by rw [hq]; rfl))⟩
/-! loop.example/g00249/laws.eqHeap -/
noncomputable def laws_eqHeap_K (x0 : GHeap) (x1 : GHeap) {ρ : Type} (K : Bool → Option ρ) : Option ρ :=
  Option.bind (laws_eqMemory x0.mem x1.mem) fun r1 =>
  cond (!r1)
    (K false)
    (Option.bind (laws_eqSpanS x0.live x1.live) fun r2 =>
    cond (!r2)
      (K false)
      (Option.bind (laws_eqSpanS x0.waits x1.waits) fun r3 =>
      cond (!r3)
        (K false)
        (K true)))
noncomputable def laws_eqHeap (x0 : GHeap) (x1 : GHeap) : Option (Bool) := laws_eqHeap_K x0 x1 some
theorem laws_eqHeap_bind (x0 : GHeap) (x1 : GHeap) {ρ : Type} (K : Bool → Option ρ) : laws_eqHeap_K x0 x1 K = (laws_eqHeap x0 x1).bind K := by
  simp only [laws_eqHeap, laws_eqHeap_K, Option.bind_assoc, Option.bind_some, Option.bind_none, cond_bind, sumK_bind]
noncomputable def laws_eqHeap_E : Env Row := envN false 38 8 [(136, laws_eqMemory_C), (137, laws_eqSpanS_C)] []
theorem laws_eqHeap_nf (x0 : GHeap) (x1 : GHeap) (ρ : Type) (K : V → Heap Row → Option ρ) : evBody rowU laws_eqHeap_E (bodyC 38) [.a [.sl 0 0, .sl 1 0, .sl 2 0, .sl 3 0], .a [.sl 4 0, .sl 5 0, .sl 6 0, .sl 7 0]] [⟨.row ⟨.word, x0.mem.words⟩, 0, 1⟩, ⟨.row ⟨.bool, x0.mem.gone⟩, 0, 1⟩, ⟨.row ⟨.span, x0.live⟩, 0, 1⟩, ⟨.row ⟨.span, x0.waits⟩, 0, 1⟩, ⟨.row ⟨.word, x1.mem.words⟩, 0, 1⟩, ⟨.row ⟨.bool, x1.mem.gone⟩, 0, 1⟩, ⟨.row ⟨.span, x1.live⟩, 0, 1⟩, ⟨.row ⟨.span, x1.waits⟩, 0, 1⟩] K = laws_eqHeap_K x0 x1 (fun r => K (.c (.bool r)) [⟨.row ⟨.word, x0.mem.words⟩, 0, 1⟩, ⟨.row ⟨.bool, x0.mem.gone⟩, 0, 1⟩, ⟨.row ⟨.span, x0.live⟩, 0, 1⟩, ⟨.row ⟨.span, x0.waits⟩, 0, 1⟩, ⟨.row ⟨.word, x1.mem.words⟩, 0, 1⟩, ⟨.row ⟨.bool, x1.mem.gone⟩, 0, 1⟩, ⟨.row ⟨.span, x1.live⟩, 0, 1⟩, ⟨.row ⟨.span, x1.waits⟩, 0, 1⟩]) := by kernel_rfl
def laws_eqHeap_D : List V → Heap Row → Option (GHeap × GHeap)
  | [.a (.sl 0 0 :: .sl 1 0 :: .sl 2 0 :: .sl 3 0 :: []), .a (.sl 4 0 :: .sl 5 0 :: .sl 6 0 :: .sl 7 0 :: [])], [⟨.row ⟨.word, v1⟩, 0, 1⟩, ⟨.row ⟨.bool, v2⟩, 0, 1⟩, ⟨.row ⟨.span, v3⟩, 0, 1⟩, ⟨.row ⟨.span, v4⟩, 0, 1⟩, ⟨.row ⟨.word, v5⟩, 0, 1⟩, ⟨.row ⟨.bool, v6⟩, 0, 1⟩, ⟨.row ⟨.span, v7⟩, 0, 1⟩, ⟨.row ⟨.span, v8⟩, 0, 1⟩] => some (⟨⟨v1, v2⟩, v3, v4⟩, ⟨⟨v5, v6⟩, v7, v8⟩)
  | _, _ => none
theorem laws_eqHeap_D_ok {vs : List V} {W : Heap Row} {a : GHeap × GHeap} (h : laws_eqHeap_D vs W = some a) : vs = [.a [.sl 0 0, .sl 1 0, .sl 2 0, .sl 3 0], .a [.sl 4 0, .sl 5 0, .sl 6 0, .sl 7 0]] ∧ W = [⟨.row ⟨.word, (a.1).mem.words⟩, 0, 1⟩, ⟨.row ⟨.bool, (a.1).mem.gone⟩, 0, 1⟩, ⟨.row ⟨.span, (a.1).live⟩, 0, 1⟩, ⟨.row ⟨.span, (a.1).waits⟩, 0, 1⟩, ⟨.row ⟨.word, (a.2).mem.words⟩, 0, 1⟩, ⟨.row ⟨.bool, (a.2).mem.gone⟩, 0, 1⟩, ⟨.row ⟨.span, (a.2).live⟩, 0, 1⟩, ⟨.row ⟨.span, (a.2).waits⟩, 0, 1⟩] := by
  unfold laws_eqHeap_D at h
  split at h
  · simp at h; subst h; exact ⟨rfl, rfl⟩
  · simp at h
noncomputable def laws_eqHeap_C : Callee Row := ⟨[(false, 0), (false, 0), (false, 0), (false, 0), (false, 0), (false, 0), (false, 0), (false, 0)], fun _ vs W K => (laws_eqHeap_D vs W).bind fun a => (laws_eqHeap a.1 a.2).bind fun r => K (.c (.bool r)) [⟨.row ⟨.word, (a.1).mem.words⟩, 0, 1⟩, ⟨.row ⟨.bool, (a.1).mem.gone⟩, 0, 1⟩, ⟨.row ⟨.span, (a.1).live⟩, 0, 1⟩, ⟨.row ⟨.span, (a.1).waits⟩, 0, 1⟩, ⟨.row ⟨.word, (a.2).mem.words⟩, 0, 1⟩, ⟨.row ⟨.bool, (a.2).mem.gone⟩, 0, 1⟩, ⟨.row ⟨.span, (a.2).live⟩, 0, 1⟩, ⟨.row ⟨.span, (a.2).waits⟩, 0, 1⟩]⟩
theorem laws_eqHeap_ok : CalleeOk Try.prog rowU 38 laws_eqHeap_C := by
  refine calleeP (nl := false) (m0 := 8) (T := [(136, laws_eqMemory_C), (137, laws_eqSpanS_C)]) (H := []) (TabOk.cons laws_eqMemory_ok (TabOk.cons laws_eqSpanS_ok TabOk.nil)) (by kernel_rfl) (by kernel_rfl) (fun p hp => nomatch hp) fun ρ vs W K r h => ?_
  obtain ⟨a, ha, h1⟩ := Option.bind_eq_some_iff.1 h
  clear h
  obtain ⟨rfl, rfl⟩ := laws_eqHeap_D_ok ha
  obtain ⟨q, hq, h2⟩ := Option.bind_eq_some_iff.1 h1
  exact ⟨_, _, h2, (laws_eqHeap_nf (a.1) (a.2) _ _).trans ((laws_eqHeap_bind (a.1) (a.2) _).trans (by rw [hq]; rfl))⟩
/-! loop.example/g00249/laws.FnExactFreeCells -/
noncomputable def laws_FnExactFreeCells_K (x0 : GHeap) {ρ : Type} (K : Bool → Option ρ) : Option ρ :=
  Option.bind (laws_szHeap x0 1048576) fun r1 =>
  cond (decide (r1 < 0))
    (K true)
    (Option.bind (laws_toHeap x0) fun r2 =>
    Option.bind (spec_FreeCells r2) fun r3 =>
    Option.bind (laws_toHeap x0) fun r4 =>
    Option.bind (impl_FreeCells r4) fun r5 =>
    cond (r5 != r3)
      (K false)
      (Option.bind (laws_toHeap x0) fun r6 =>
      Option.bind (laws_eqHeap r4 r6) fun r7 =>
      cond (!r7)
        (K false)
        (K true)))
noncomputable def laws_FnExactFreeCells (x0 : GHeap) : Option (Bool) := laws_FnExactFreeCells_K x0 some
theorem laws_FnExactFreeCells_bind (x0 : GHeap) {ρ : Type} (K : Bool → Option ρ) : laws_FnExactFreeCells_K x0 K = (laws_FnExactFreeCells x0).bind K := by
  simp only [laws_FnExactFreeCells, laws_FnExactFreeCells_K, Option.bind_assoc, Option.bind_some, Option.bind_none, cond_bind, sumK_bind]
noncomputable def laws_FnExactFreeCells_E : Env Row := envN false 4 4 [(34, laws_szHeap_C), (36, laws_toHeap_C), (35, spec_FreeCells_C), (37, impl_FreeCells_C), (38, laws_eqHeap_C)] []
theorem laws_FnExactFreeCells_nf (x0 : GHeap) (ρ : Type) (K : V → Heap Row → Option ρ) : evBody rowU laws_FnExactFreeCells_E (bodyC 4) [.a [.sl 0 0, .sl 1 0, .sl 2 0, .sl 3 0]] [⟨.row ⟨.word, x0.mem.words⟩, 0, 1⟩, ⟨.row ⟨.bool, x0.mem.gone⟩, 0, 1⟩, ⟨.row ⟨.span, x0.live⟩, 0, 1⟩, ⟨.row ⟨.span, x0.waits⟩, 0, 1⟩] K = laws_FnExactFreeCells_K x0 (fun r => K (.c (.bool r)) [⟨.row ⟨.word, x0.mem.words⟩, 0, 1⟩, ⟨.row ⟨.bool, x0.mem.gone⟩, 0, 1⟩, ⟨.row ⟨.span, x0.live⟩, 0, 1⟩, ⟨.row ⟨.span, x0.waits⟩, 0, 1⟩]) := by kernel_rfl
def laws_FnExactFreeCells_D : List V → Heap Row → Option (GHeap)
  | [.a (.sl 0 0 :: .sl 1 0 :: .sl 2 0 :: .sl 3 0 :: [])], [⟨.row ⟨.word, v1⟩, 0, 1⟩, ⟨.row ⟨.bool, v2⟩, 0, 1⟩, ⟨.row ⟨.span, v3⟩, 0, 1⟩, ⟨.row ⟨.span, v4⟩, 0, 1⟩] => some (⟨⟨v1, v2⟩, v3, v4⟩)
  | _, _ => none
theorem laws_FnExactFreeCells_D_ok {vs : List V} {W : Heap Row} {a : GHeap} (h : laws_FnExactFreeCells_D vs W = some a) : vs = [.a [.sl 0 0, .sl 1 0, .sl 2 0, .sl 3 0]] ∧ W = [⟨.row ⟨.word, (a).mem.words⟩, 0, 1⟩, ⟨.row ⟨.bool, (a).mem.gone⟩, 0, 1⟩, ⟨.row ⟨.span, (a).live⟩, 0, 1⟩, ⟨.row ⟨.span, (a).waits⟩, 0, 1⟩] := by
  unfold laws_FnExactFreeCells_D at h
  split at h
  · simp at h; subst h; exact ⟨rfl, rfl⟩
  · simp at h
noncomputable def laws_FnExactFreeCells_C : Callee Row := ⟨[(false, 0), (false, 0), (false, 0), (false, 0)], fun _ vs W K => (laws_FnExactFreeCells_D vs W).bind fun a => (laws_FnExactFreeCells a).bind fun r => K (.c (.bool r)) [⟨.row ⟨.word, (a).mem.words⟩, 0, 1⟩, ⟨.row ⟨.bool, (a).mem.gone⟩, 0, 1⟩, ⟨.row ⟨.span, (a).live⟩, 0, 1⟩, ⟨.row ⟨.span, (a).waits⟩, 0, 1⟩]⟩
theorem laws_FnExactFreeCells_ok : CalleeOk Try.prog rowU 4 laws_FnExactFreeCells_C := by
  refine calleeP (nl := false) (m0 := 4) (T := [(34, laws_szHeap_C), (36, laws_toHeap_C), (35, spec_FreeCells_C), (37, impl_FreeCells_C), (38, laws_eqHeap_C)]) (H := []) (TabOk.cons laws_szHeap_ok (TabOk.cons laws_toHeap_ok (TabOk.cons spec_FreeCells_ok (TabOk.cons impl_FreeCells_ok (TabOk.cons laws_eqHeap_ok TabOk.nil))))) (by kernel_rfl) (by kernel_rfl) (fun p hp => nomatch hp) fun ρ vs W K r h => ?_
  obtain ⟨a, ha, h1⟩ := Option.bind_eq_some_iff.1 h
  clear h
  obtain ⟨rfl, rfl⟩ := laws_FnExactFreeCells_D_ok ha
  obtain ⟨q, hq, h2⟩ := Option.bind_eq_some_iff.1 h1
  exact ⟨_, _, h2, (laws_FnExactFreeCells_nf a _ _).trans ((laws_FnExactFreeCells_bind a _).trans (by rw [hq]; rfl))⟩
end Go.Eng
