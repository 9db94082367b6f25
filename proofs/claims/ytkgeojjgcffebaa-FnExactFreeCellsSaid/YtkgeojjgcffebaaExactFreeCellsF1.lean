/- Functions of the program, as the evaluator tells them: printed by a program of ours. -/
import Derived.Test.YtkgeojjgcffebaaExactFreeCellsFS
import Derived.Test.YtkgeojjgcffebaaExactFreeCellsF0
set_option linter.unusedVariables false
set_option linter.unusedSimpArgs false
set_option maxRecDepth 20000
namespace Go.Eng
open Go.Proofs
/-! loop.example/g00249/spec.FreeCells -/
noncomputable def spec_FreeCells_L0_K (l0 : List GWord) (l1 : List Bool) (l2 : List GSpan) (l3 : List GSpan) (l4 : List Int) (n5 : Int) (n6 : Int) {ρ : Type} (A : Int × Int → Option ρ) (X : Int → Option ρ) (R : Unit → Option ρ) : Option ρ :=
  cond ((decide (n6 < 24)) == true)
    (Option.bind (spec_HeapOk (⟨(⟨l0, l1⟩ : GMemory), l2, l3⟩ : GHeap)) fun r2 =>
    cond r2
      (cond (decide (0 ≤ n6)) (cond (decide (n6 < (((l4.length : Nat) : Int)))) (cond ((List.getD l4 (n6.toNat) 0) == 0)
        (A (w64 (n5 + 1), w64 (n6 + 1)))
        (A (n5, w64 (n6 + 1)))) none) none)
      (X n5))
    (X n5)
noncomputable def spec_FreeCells_L0_step (l0 : List GWord) (l1 : List Bool) (l2 : List GSpan) (l3 : List GSpan) (l4 : List Int) (s : Int × Int) : Option (Rnd (Int × Int) (Int) (Unit)) := spec_FreeCells_L0_K l0 l1 l2 l3 l4 (s.1) (s.2) (fun s => some (.again s)) (fun t => some (.exit t)) (fun k => some (.ret k))
theorem spec_FreeCells_L0_bind (l0 : List GWord) (l1 : List Bool) (l2 : List GSpan) (l3 : List GSpan) (l4 : List Int) (s : Int × Int) {ρ : Type} (A : Int × Int → Option ρ) (X : Int → Option ρ) (R : Unit → Option ρ) : spec_FreeCells_L0_K l0 l1 l2 l3 l4 (s.1) (s.2) A X R = (spec_FreeCells_L0_step l0 l1 l2 l3 l4 s).bind (rndE A X R) := by
  simp only [spec_FreeCells_L0_step, spec_FreeCells_L0_K, Option.bind_assoc, Option.bind_some, Option.bind_none, cond_bind, sumK_bind, rndE_again, rndE_exit, rndE_ret]
def spec_FreeCells_L0_st (p : List GWord × List Bool × List GSpan × List GSpan × List Int) (s : Int × Int) : List V × Heap Row := ([.c (.ptr 4 0), .c (.int .i64 (s.1)), .c (.sl 5 0), .c (.int .i64 (s.2))], [⟨.row ⟨.word, p.1⟩, 0, 1⟩, ⟨.row ⟨.bool, p.2.1⟩, 0, 1⟩, ⟨.row ⟨.span, p.2.2.1⟩, 0, 1⟩, ⟨.row ⟨.span, p.2.2.2.1⟩, 0, 1⟩, ⟨.box [.sl 0 0, .sl 1 0, .sl 2 0, .sl 3 0], 0, 2⟩, ⟨.row ⟨.int, p.2.2.2.2⟩, 0, 2⟩])
def spec_FreeCells_L0_so (p : List GWord × List Bool × List GSpan × List GSpan × List Int) (t : Int) : List V × Heap Row := ([.c (.int .i64 (t))], [⟨.row ⟨.word, p.1⟩, 0, 1⟩, ⟨.row ⟨.bool, p.2.1⟩, 0, 1⟩, ⟨.row ⟨.span, p.2.2.1⟩, 0, 1⟩, ⟨.row ⟨.span, p.2.2.2.1⟩, 0, 1⟩])
def spec_FreeCells_L0_D : List V → Heap Row → Option ((List GWord × List Bool × List GSpan × List GSpan × List Int) × (Int × Int))
  | [.c (.ptr 4 0), .c (.int .i64 v1), .c (.sl 5 0), .c (.int .i64 v2)], [⟨.row ⟨.word, v3⟩, 0, 1⟩, ⟨.row ⟨.bool, v4⟩, 0, 1⟩, ⟨.row ⟨.span, v5⟩, 0, 1⟩, ⟨.row ⟨.span, v6⟩, 0, 1⟩, ⟨.box [.sl 0 0, .sl 1 0, .sl 2 0, .sl 3 0], 0, 2⟩, ⟨.row ⟨.int, v7⟩, 0, 2⟩] => some ((v3, v4, v5, v6, v7), (v1, v2))
  | _, _ => none
theorem spec_FreeCells_L0_D_ok (vs : List V) (L : Heap Row) (p : List GWord × List Bool × List GSpan × List GSpan × List Int) (s : Int × Int) (h : spec_FreeCells_L0_D vs L = some (p, s)) : spec_FreeCells_L0_st p s = (vs, L) := by
  unfold spec_FreeCells_L0_D at h
  split at h
  · simp at h; obtain ⟨rfl, rfl⟩ := h; rfl
  · simp at h
noncomputable def spec_FreeCells_L0_H : LoopH Row := loopX [1, 3, 4, 5] [3] spec_FreeCells_L0_D (fun p => spec_FreeCells_L0_step (p.1) (p.2.1) (p.2.2.1) (p.2.2.2.1) (p.2.2.2.2)) spec_FreeCells_L0_so
theorem spec_FreeCells_L0_nf (p : List GWord × List Bool × List GSpan × List GSpan × List Int) (s : Int × Int) (ρ : Type) (again Kx Kr : List V → Heap Row → Option ρ) : evRound rowU (envOf 35 4 [(131, spec_l23Owners_C), (132, spec_HeapOk_C)] [(0, spec_FreeCells_L0_H)]) 0 spec_FreeCells_L0_H (loopC 35 0) again (spec_FreeCells_L0_st p s).1 (spec_FreeCells_L0_st p s).2 Kx Kr = spec_FreeCells_L0_K (p.1) (p.2.1) (p.2.2.1) (p.2.2.2.1) (p.2.2.2.2) (s.1) (s.2) (fun s => again (spec_FreeCells_L0_st p s).1 (spec_FreeCells_L0_st p s).2) (fun t => Kx (spec_FreeCells_L0_so p t).1 (spec_FreeCells_L0_so p t).2) (fun _ => none) := by kernel_rfl
theorem spec_FreeCells_L0_ok (hb : LoopsOk Try.prog rowU (envOf 35 4 [(131, spec_l23Owners_C), (132, spec_HeapOk_C)] [(0, spec_FreeCells_L0_H)]) (loopAt (codeP 35) 0)) : LoopOk Try.prog rowU (envOf 35 4 [(131, spec_l23Owners_C), (132, spec_HeapOk_C)] [(0, spec_FreeCells_L0_H)]) 0 (loopAt (codeP 35) 0) spec_FreeCells_L0_H :=
  loopX_ok tagOk mixed envNl (envT (TabOk.cons spec_l23Owners_ok (TabOk.cons spec_HeapOk_ok TabOk.nil))) hb spec_FreeCells_L0_st spec_FreeCells_L0_D_ok fun p s ρ A Kx Kr => (spec_FreeCells_L0_nf p s ρ A Kx Kr).trans (spec_FreeCells_L0_bind (p.1) (p.2.1) (p.2.2.1) (p.2.2.2.1) (p.2.2.2.2) s _ _ _)
noncomputable def spec_FreeCells_K (x0 : GHeap) {ρ : Type} (K : Int → Option ρ) : Option ρ :=
  Option.bind (spec_l23Owners x0) fun r1 =>
  Option.bind (runX (spec_FreeCells_L0_step x0.mem.words x0.mem.gone x0.live x0.waits r1) (0, 0)) fun t3 =>
  K t3
noncomputable def spec_FreeCells (x0 : GHeap) : Option (Int) := spec_FreeCells_K x0 some
theorem spec_FreeCells_bind (x0 : GHeap) {ρ : Type} (K : Int → Option ρ) : spec_FreeCells_K x0 K = (spec_FreeCells x0).bind K := by
  simp only [spec_FreeCells, spec_FreeCells_K, Option.bind_assoc, Option.bind_some, Option.bind_none, cond_bind, sumK_bind]
noncomputable def spec_FreeCells_E : Env Row := envN false 35 4 [(131, spec_l23Owners_C), (132, spec_HeapOk_C)] [(0, spec_FreeCells_L0_H)]
theorem spec_FreeCells_nf (x0 : GHeap) (ρ : Type) (K : V → Heap Row → Option ρ) : evBody rowU spec_FreeCells_E (bodyC 35) [.a [.sl 0 0, .sl 1 0, .sl 2 0, .sl 3 0]] [⟨.row ⟨.word, x0.mem.words⟩, 0, 1⟩, ⟨.row ⟨.bool, x0.mem.gone⟩, 0, 1⟩, ⟨.row ⟨.span, x0.live⟩, 0, 1⟩, ⟨.row ⟨.span, x0.waits⟩, 0, 1⟩] K = spec_FreeCells_K x0 (fun r => K (.c (.int .i64 r)) [⟨.row ⟨.word, x0.mem.words⟩, 0, 1⟩, ⟨.row ⟨.bool, x0.mem.gone⟩, 0, 1⟩, ⟨.row ⟨.span, x0.live⟩, 0, 1⟩, ⟨.row ⟨.span, x0.waits⟩, 0, 1⟩]) := by kernel_rfl
def spec_FreeCells_D : List V → Heap Row → Option (GHeap)
  | [.a (.sl 0 0 :: .sl 1 0 :: .sl 2 0 :: .sl 3 0 :: [])], [⟨.row ⟨.word, v1⟩, 0, 1⟩, ⟨.row ⟨.bool, v2⟩, 0, 1⟩, ⟨.row ⟨.span, v3⟩, 0, 1⟩, ⟨.row ⟨.span, v4⟩, 0, 1⟩] => some (⟨⟨v1, v2⟩, v3, v4⟩)
  | _, _ => none
theorem spec_FreeCells_D_ok {vs : List V} {W : Heap Row} {a : GHeap} (h : spec_FreeCells_D vs W = some a) : vs = [.a [.sl 0 0, .sl 1 0, .sl 2 0, .sl 3 0]] ∧ W = [⟨.row ⟨.word, (a).mem.words⟩, 0, 1⟩, ⟨.row ⟨.bool, (a).mem.gone⟩, 0, 1⟩, ⟨.row ⟨.span, (a).live⟩, 0, 1⟩, ⟨.row ⟨.span, (a).waits⟩, 0, 1⟩] := by
  unfold spec_FreeCells_D at h
  split at h
  · simp at h; subst h; exact ⟨rfl, rfl⟩
  · simp at h
noncomputable def spec_FreeCells_C : Callee Row := ⟨[(false, 0), (false, 0), (false, 0), (false, 0)], fun _ vs W K => (spec_FreeCells_D vs W).bind fun a => (spec_FreeCells a).bind fun r => K (.c (.int .i64 r)) [⟨.row ⟨.word, (a).mem.words⟩, 0, 1⟩, ⟨.row ⟨.bool, (a).mem.gone⟩, 0, 1⟩, ⟨.row ⟨.span, (a).live⟩, 0, 1⟩, ⟨.row ⟨.span, (a).waits⟩, 0, 1⟩]⟩
theorem spec_FreeCells_ok : CalleeOk Try.prog rowU 35 spec_FreeCells_C := by
  refine calleeP (nl := false) (m0 := 4) (T := [(131, spec_l23Owners_C), (132, spec_HeapOk_C)]) (H := [(0, spec_FreeCells_L0_H)]) (TabOk.cons spec_l23Owners_ok (TabOk.cons spec_HeapOk_ok TabOk.nil)) (by kernel_rfl) (by kernel_rfl) (fun p hp hb => by
    simp only [List.mem_cons, List.not_mem_nil, or_false] at hp
    subst hp
    exact spec_FreeCells_L0_ok hb) fun ρ vs W K r h => ?_
  obtain ⟨a, ha, h1⟩ := Option.bind_eq_some_iff.1 h
  clear h
  obtain ⟨rfl, rfl⟩ := spec_FreeCells_D_ok ha
  obtain ⟨q, hq, h2⟩ := Option.bind_eq_some_iff.1 h1
  exact ⟨_, _, h2, (spec_FreeCells_nf a _ _).trans ((spec_FreeCells_bind a _).trans (by rw [hq]; rfl))⟩
/-! loop.example/g00249/impl.in -/
def impl_in_K (x0 : Int) (x1 : Int) (x2 : Int) {ρ : Type} (K : Bool → Option ρ) : Option ρ :=
  cond ((decide (x0 ≥ x1)) == true)
    (K (decide (x0 ≤ x2)))
    (K false)
def impl_in (x0 : Int) (x1 : Int) (x2 : Int) : Option (Bool) := impl_in_K x0 x1 x2 some
theorem impl_in_bind (x0 : Int) (x1 : Int) (x2 : Int) {ρ : Type} (K : Bool → Option ρ) : impl_in_K x0 x1 x2 K = (impl_in x0 x1 x2).bind K := by
  simp only [impl_in, impl_in_K, Option.bind_assoc, Option.bind_some, Option.bind_none, cond_bind, sumK_bind]
noncomputable def impl_in_E : Env Row := envN false 125 0 [] []
theorem impl_in_nf (x0 : Int) (x1 : Int) (x2 : Int) (ρ : Type) (K : V → Heap Row → Option ρ) : evBody rowU impl_in_E (bodyC 125) [.c (.int .i64 x0), .c (.int .i64 x1), .c (.int .i64 x2)] [] K = impl_in_K x0 x1 x2 (fun r => K (.c (.bool r)) []) := by kernel_rfl
def impl_in_D : List V → Heap Row → Option (Int × Int × Int)
  | [.c (.int .i64 v1), .c (.int .i64 v2), .c (.int .i64 v3)], [] => some (v1, v2, v3)
  | _, _ => none
theorem impl_in_D_ok {vs : List V} {W : Heap Row} {a : Int × Int × Int} (h : impl_in_D vs W = some a) : vs = [.c (.int .i64 (a.1)), .c (.int .i64 (a.2.1)), .c (.int .i64 (a.2.2))] ∧ W = [] := by
  unfold impl_in_D at h
  split at h
  · simp at h; subst h; exact ⟨rfl, rfl⟩
  · simp at h
def impl_in_C : Callee Row := ⟨[], fun _ vs W K => (impl_in_D vs W).bind fun a => (impl_in a.1 a.2.1 a.2.2).bind fun r => K (.c (.bool r)) []⟩
theorem impl_in_ok : CalleeOk Try.prog rowU 125 impl_in_C := by
  refine calleeP (nl := false) (m0 := 0) (T := []) (H := []) TabOk.nil (by kernel_rfl) (by kernel_rfl) (fun p hp => nomatch hp) fun ρ vs W K r h => ?_
  obtain ⟨a, ha, h1⟩ := Option.bind_eq_some_iff.1 h
  clear h
  obtain ⟨rfl, rfl⟩ := impl_in_D_ok ha
  obtain ⟨q, hq, h2⟩ := Option.bind_eq_some_iff.1 h1
  exact ⟨_, _, h2, (impl_in_nf (a.1) (a.2.1) (a.2.2) _ _).trans ((impl_in_bind (a.1) (a.2.1) (a.2.2) _).trans (by rw [hq]; rfl))⟩
/-! loop.example/g00249/impl.BoundsOk -/
def impl_BoundsOk_K (x0 : Int) (x1 : Int) {ρ : Type} (K : Bool → Option ρ) : Option ρ :=
  Option.bind (impl_in x0 0 x1) fun r1 =>
  cond (r1 == true)
    (K (decide (x1 ≤ 4096)))
    (K false)
def impl_BoundsOk (x0 : Int) (x1 : Int) : Option (Bool) := impl_BoundsOk_K x0 x1 some
theorem impl_BoundsOk_bind (x0 : Int) (x1 : Int) {ρ : Type} (K : Bool → Option ρ) : impl_BoundsOk_K x0 x1 K = (impl_BoundsOk x0 x1).bind K := by
  simp only [impl_BoundsOk, impl_BoundsOk_K, Option.bind_assoc, Option.bind_some, Option.bind_none, cond_bind, sumK_bind]
noncomputable def impl_BoundsOk_E : Env Row := envN false 250 0 [(125, impl_in_C)] []
theorem impl_BoundsOk_nf (x0 : Int) (x1 : Int) (ρ : Type) (K : V → Heap Row → Option ρ) : evBody rowU impl_BoundsOk_E (bodyC 250) [.c (.int .i64 x0), .c (.int .i64 x1)] [] K = impl_BoundsOk_K x0 x1 (fun r => K (.c (.bool r)) []) := by kernel_rfl
def impl_BoundsOk_D : List V → Heap Row → Option (Int × Int)
  | [.c (.int .i64 v1), .c (.int .i64 v2)], [] => some (v1, v2)
  | _, _ => none
theorem impl_BoundsOk_D_ok {vs : List V} {W : Heap Row} {a : Int × Int} (h : impl_BoundsOk_D vs W = some a) : vs = [.c (.int .i64 (a.1)), .c (.int .i64 (a.2))] ∧ W = [] := by
  unfold impl_BoundsOk_D at h
  split at h
  · simp at h; subst h; exact ⟨rfl, rfl⟩
  · simp at h
def impl_BoundsOk_C : Callee Row := ⟨[], fun _ vs W K => (impl_BoundsOk_D vs W).bind fun a => (impl_BoundsOk a.1 a.2).bind fun r => K (.c (.bool r)) []⟩
theorem impl_BoundsOk_ok : CalleeOk Try.prog rowU 250 impl_BoundsOk_C := by
  refine calleeP (nl := false) (m0 := 0) (T := [(125, impl_in_C)]) (H := []) (TabOk.cons impl_in_ok TabOk.nil) (by kernel_rfl) (by kernel_rfl) (fun p hp => nomatch hp) fun ρ vs W K r h => ?_
  obtain ⟨a, ha, h1⟩ := Option.bind_eq_some_iff.1 h
  clear h
  obtain ⟨rfl, rfl⟩ := impl_BoundsOk_D_ok ha
  obtain ⟨q, hq, h2⟩ := Option.bind_eq_some_iff.1 h1
  exact ⟨_, _, h2, (impl_BoundsOk_nf (a.1) (a.2) _ _).trans ((impl_BoundsOk_bind (a.1) (a.2) _).trans (by rw [hq]; rfl))⟩
/-! loop.example/g00249/impl.Pack -/
noncomputable def impl_Pack_L0_K (n3 : Int) (n4 : Int) (n5 : Int) {ρ : Type} (A : Int → Option ρ) (X : Unit → Option ρ) (R : Int × Int × Int → Option ρ) : Option ρ :=
  cond (decide (n5 < 7))
    (cond (decide (0 ≤ n5)) (cond ((w64 (1 * (pw2 64 n5))) != 0) (cond ((w64 (1 * (pw2 64 n5))) != 0) (cond ((decide ((w64 (Int.tdiv n3 (w64 (1 * (pw2 64 n5))))) ≤ 63)) == true)
      (cond (decide ((w64 (Int.tdiv (w64 ((w64 ((w64 (n4 - (w64 ((w64 (Int.tdiv n3 (w64 (1 * (pw2 64 n5))))) * (w64 (1 * (pw2 64 n5))))))) + (w64 (1 * (pw2 64 n5))))) - 1)) (w64 (1 * (pw2 64 n5))))) ≤ 63))
        (R (n5, w64 (Int.tdiv n3 (w64 (1 * (pw2 64 n5)))), w64 (Int.tdiv (w64 ((w64 ((w64 (n4 - (w64 ((w64 (Int.tdiv n3 (w64 (1 * (pw2 64 n5))))) * (w64 (1 * (pw2 64 n5))))))) + (w64 (1 * (pw2 64 n5))))) - 1)) (w64 (1 * (pw2 64 n5))))))
        (A (w64 (n5 + 1))))
      (A (w64 (n5 + 1)))) none) none) none)
    (X ())
noncomputable def impl_Pack_L0_step (n3 : Int) (n4 : Int) (s : Int) : Option (Rnd (Int) (Unit) (Int × Int × Int)) := impl_Pack_L0_K n3 n4 s (fun s => some (.again s)) (fun t => some (.exit t)) (fun k => some (.ret k))
theorem impl_Pack_L0_bind (n3 : Int) (n4 : Int) (s : Int) {ρ : Type} (A : Int → Option ρ) (X : Unit → Option ρ) (R : Int × Int × Int → Option ρ) : impl_Pack_L0_K n3 n4 s A X R = (impl_Pack_L0_step n3 n4 s).bind (rndE A X R) := by
  simp only [impl_Pack_L0_step, impl_Pack_L0_K, Option.bind_assoc, Option.bind_some, Option.bind_none, cond_bind, sumK_bind, rndE_again, rndE_exit, rndE_ret]
def impl_Pack_L0_st (p : Int × Int) (s : Int) : List V × Heap Row := ([.c (.int .i64 (p.1)), .c (.int .i64 (p.2)), .c (.ptr 0 0), .c (.int .i64 (s))], [⟨.box [.int .i64 0, .int .i64 0, .int .i64 0], 0, 2⟩])
def impl_Pack_L0_so (p : Int × Int) (t : Unit) : List V × Heap Row := ([.c (.ptr 0 0)], [⟨.box [.int .i64 0, .int .i64 0, .int .i64 0], 0, 2⟩])
def impl_Pack_L0_sr (p : Int × Int) (k : Int × Int × Int) : List V × Heap Row := ([.c (.ptr 0 0), .c (.bool true)], [⟨.box [.int .i64 (k).1, .int .i64 (k).2.1, .int .i64 (k).2.2], 0, 2⟩])
def impl_Pack_L0_D : List V → Heap Row → Option ((Int × Int) × (Int))
  | [.c (.int .i64 v1), .c (.int .i64 v2), .c (.ptr 0 0), .c (.int .i64 v3)], [⟨.box [.int .i64 0, .int .i64 0, .int .i64 0], 0, 2⟩] => some ((v1, v2), (v3))
  | _, _ => none
theorem impl_Pack_L0_D_ok (vs : List V) (L : Heap Row) (p : Int × Int) (s : Int) (h : impl_Pack_L0_D vs L = some (p, s)) : impl_Pack_L0_st p s = (vs, L) := by
  unfold impl_Pack_L0_D at h
  split at h
  · simp at h; obtain ⟨rfl, rfl⟩ := h; rfl
  · simp at h
noncomputable def impl_Pack_L0_H : LoopH Row := loopR [0, 1, 4, 15] [4] impl_Pack_L0_D (fun p => impl_Pack_L0_step (p.1) (p.2)) impl_Pack_L0_so impl_Pack_L0_sr
theorem impl_Pack_L0_nf (p : Int × Int) (s : Int) (ρ : Type) (again Kx Kr : List V → Heap Row → Option ρ) : evRound rowU (envOf 289 0 [(250, impl_BoundsOk_C)] [(0, impl_Pack_L0_H)]) 0 impl_Pack_L0_H (loopC 289 0) again (impl_Pack_L0_st p s).1 (impl_Pack_L0_st p s).2 Kx Kr = impl_Pack_L0_K (p.1) (p.2) s (fun s => again (impl_Pack_L0_st p s).1 (impl_Pack_L0_st p s).2) (fun t => Kx (impl_Pack_L0_so p t).1 (impl_Pack_L0_so p t).2) (fun k => Kr (impl_Pack_L0_sr p k).1 (impl_Pack_L0_sr p k).2) := by kernel_rfl
theorem impl_Pack_L0_ok (hb : LoopsOk Try.prog rowU (envOf 289 0 [(250, impl_BoundsOk_C)] [(0, impl_Pack_L0_H)]) (loopAt (codeP 289) 0)) : LoopOk Try.prog rowU (envOf 289 0 [(250, impl_BoundsOk_C)] [(0, impl_Pack_L0_H)]) 0 (loopAt (codeP 289) 0) impl_Pack_L0_H :=
  loopR_ok tagOk mixed envNl (envT (TabOk.cons impl_BoundsOk_ok TabOk.nil)) hb impl_Pack_L0_st impl_Pack_L0_D_ok fun p s ρ A Kx Kr => (impl_Pack_L0_nf p s ρ A Kx Kr).trans (impl_Pack_L0_bind (p.1) (p.2) s _ _ _)
noncomputable def impl_Pack_K (x0 : Int) (x1 : Int) {ρ : Type} (K : GPacked × Bool → Option ρ) : Option ρ :=
  Option.bind (impl_BoundsOk x0 x1) fun r1 =>
  cond (!r1)
    (K ((⟨0, 0, 0⟩ : GPacked), false))
    (Option.bind (runL (impl_Pack_L0_step x0 x1) 0) fun ot2 => sumK ot2
      (fun t2 => K ((⟨0, 0, 0⟩ : GPacked), false))
      (fun k3 => K ((⟨k3.1, k3.2.1, k3.2.2⟩ : GPacked), true)))
noncomputable def impl_Pack (x0 : Int) (x1 : Int) : Option (GPacked × Bool) := impl_Pack_K x0 x1 some
theorem impl_Pack_bind (x0 : Int) (x1 : Int) {ρ : Type} (K : GPacked × Bool → Option ρ) : impl_Pack_K x0 x1 K = (impl_Pack x0 x1).bind K := by
  simp only [impl_Pack, impl_Pack_K, Option.bind_assoc, Option.bind_some, Option.bind_none, cond_bind, sumK_bind]
noncomputable def impl_Pack_E : Env Row := envN false 289 0 [(250, impl_BoundsOk_C)] [(0, impl_Pack_L0_H)]
theorem impl_Pack_nf (x0 : Int) (x1 : Int) (ρ : Type) (K : V → Heap Row → Option ρ) : evBody rowU impl_Pack_E (bodyC 289) [.c (.int .i64 x0), .c (.int .i64 x1)] [] K = impl_Pack_K x0 x1 (fun r => K (.t [(true, [.int .i64 r.1.e, .int .i64 r.1.b, .int .i64 r.1.l]), (false, [.bool r.2])]) []) := by kernel_rfl
def impl_Pack_D : List V → Heap Row → Option (Int × Int)
  | [.c (.int .i64 v1), .c (.int .i64 v2)], [] => some (v1, v2)
  | _, _ => none
theorem impl_Pack_D_ok {vs : List V} {W : Heap Row} {a : Int × Int} (h : impl_Pack_D vs W = some a) : vs = [.c (.int .i64 (a.1)), .c (.int .i64 (a.2))] ∧ W = [] := by
  unfold impl_Pack_D at h
  split at h
  · simp at h; subst h; exact ⟨rfl, rfl⟩
  · simp at h
noncomputable def impl_Pack_C : Callee Row := ⟨[], fun _ vs W K => (impl_Pack_D vs W).bind fun a => (impl_Pack a.1 a.2).bind fun r => K (.t [(true, [.int .i64 r.1.e, .int .i64 r.1.b, .int .i64 r.1.l]), (false, [.bool r.2])]) []⟩
theorem impl_Pack_ok : CalleeOk Try.prog rowU 289 impl_Pack_C := by
  refine calleeP (nl := false) (m0 := 0) (T := [(250, impl_BoundsOk_C)]) (H := [(0, impl_Pack_L0_H)]) (TabOk.cons impl_BoundsOk_ok TabOk.nil) (by kernel_rfl) (by kernel_rfl) (fun p hp hb => by
    simp only [List.mem_cons, List.not_mem_nil, or_false] at hp
    subst hp
    exact impl_Pack_L0_ok hb) fun ρ vs W K r h => ?_
  obtain ⟨a, ha, h1⟩ := Option.bind_eq_some_iff.1 h
  clear h
  obtain ⟨rfl, rfl⟩ := impl_Pack_D_ok ha
  obtain ⟨q, hq, h2⟩ := Option.bind_eq_some_iff.1 h1
  exact ⟨_, _, h2, (impl_Pack_nf (a.1) (a.2) _ _).trans ((impl_Pack_bind (a.1) (a.2) _).trans (by rw [hq]; rfl))⟩
/-! loop.example/g00249/impl.Unpack -/
def impl_Unpack_K (x0 : GPacked) {ρ : Type} (K : Int × Int × Bool → Option ρ) : Option ρ :=
  Option.bind (impl_in x0.e 0 6) fun r1 =>
  cond ((!r1) == false)
    (Option.bind (impl_in x0.b 0 63) fun r2 =>
    cond ((!r2) == false)
      (Option.bind (impl_in x0.l 0 63) fun r3 =>
      cond (!r3)
        (K (0, 0, false))
        (cond (decide (0 ≤ x0.e)) (cond (decide (0 ≤ x0.e)) (K (w64 (x0.b * (pw2 64 x0.e)), mn 4096 (w64 ((w64 (x0.b + x0.l)) * (pw2 64 x0.e))), true)) none) none))
      (K (0, 0, false)))
    (K (0, 0, false))
def impl_Unpack (x0 : GPacked) : Option (Int × Int × Bool) := impl_Unpack_K x0 some
theorem impl_Unpack_bind (x0 : GPacked) {ρ : Type} (K : Int × Int × Bool → Option ρ) : impl_Unpack_K x0 K = (impl_Unpack x0).bind K := by
  simp only [impl_Unpack, impl_Unpack_K, Option.bind_assoc, Option.bind_some, Option.bind_none, cond_bind, sumK_bind]
noncomputable def impl_Unpack_E : Env Row := envN false 290 0 [(125, impl_in_C)] []
theorem impl_Unpack_nf (x0 : GPacked) (ρ : Type) (K : V → Heap Row → Option ρ) : evBody rowU impl_Unpack_E (bodyC 290) [.a [.int .i64 x0.e, .int .i64 x0.b, .int .i64 x0.l]] [] K = impl_Unpack_K x0 (fun r => K (.t [(false, [.int .i64 r.1]), (false, [.int .i64 r.2.1]), (false, [.bool r.2.2])]) []) := by kernel_rfl
def impl_Unpack_D : List V → Heap Row → Option (GPacked)
  | [.a (.int .i64 v1 :: .int .i64 v2 :: .int .i64 v3 :: [])], [] => some (⟨v1, v2, v3⟩)
  | _, _ => none
theorem impl_Unpack_D_ok {vs : List V} {W : Heap Row} {a : GPacked} (h : impl_Unpack_D vs W = some a) : vs = [.a [.int .i64 (a).e, .int .i64 (a).b, .int .i64 (a).l]] ∧ W = [] := by
  unfold impl_Unpack_D at h
  split at h
  · simp at h; subst h; exact ⟨rfl, rfl⟩
  · simp at h
def impl_Unpack_C : Callee Row := ⟨[], fun _ vs W K => (impl_Unpack_D vs W).bind fun a => (impl_Unpack a).bind fun r => K (.t [(false, [.int .i64 r.1]), (false, [.int .i64 r.2.1]), (false, [.bool r.2.2])]) []⟩
theorem impl_Unpack_ok : CalleeOk Try.prog rowU 290 impl_Unpack_C := by
  refine calleeP (nl := false) (m0 := 0) (T := [(125, impl_in_C)]) (H := []) (TabOk.cons impl_in_ok TabOk.nil) (by kernel_rfl) (by kernel_rfl) (fun p hp => nomatch hp) fun ρ vs W K r h => ?_
  obtain ⟨a, ha, h1⟩ := Option.bind_eq_some_iff.1 h
  clear h
  obtain ⟨rfl, rfl⟩ := impl_Unpack_D_ok ha
  obtain ⟨q, hq, h2⟩ := Option.bind_eq_some_iff.1 h1
  exact ⟨_, _, h2, (impl_Unpack_nf a _ _).trans ((impl_Unpack_bind a _).trans (by rw [hq]; rfl))⟩
/-! loop.example/g00249/impl.Wide -/
noncomputable def impl_Wide_K (x0 : Int) (x1 : Int) {ρ : Type} (K : Int × Int → Option ρ) : Option ρ :=
  Option.bind (impl_BoundsOk x0 x1) fun r1 =>
  cond (!r1)
    (K (0, 0))
    (Option.bind (impl_Pack x0 x1) fun r2 =>
    cond (!r2.2)
      (K (0, 4096))
      (Option.bind (impl_Unpack r2.1) fun r3 =>
      K (r3.1, r3.2.1)))
noncomputable def impl_Wide (x0 : Int) (x1 : Int) : Option (Int × Int) := impl_Wide_K x0 x1 some
theorem impl_Wide_bind (x0 : Int) (x1 : Int) {ρ : Type} (K : Int × Int → Option ρ) : impl_Wide_K x0 x1 K = (impl_Wide x0 x1).bind K := by
  simp only [impl_Wide, impl_Wide_K, Option.bind_assoc, Option.bind_some, Option.bind_none, cond_bind, sumK_bind]
noncomputable def impl_Wide_E : Env Row := envN false 249 0 [(250, impl_BoundsOk_C), (289, impl_Pack_C), (290, impl_Unpack_C)] []
theorem impl_Wide_nf (x0 : Int) (x1 : Int) (ρ : Type) (K : V → Heap Row → Option ρ) : evBody rowU impl_Wide_E (bodyC 249) [.c (.int .i64 x0), .c (.int .i64 x1)] [] K = impl_Wide_K x0 x1 (fun r => K (.t [(false, [.int .i64 r.1]), (false, [.int .i64 r.2])]) []) := by kernel_rfl
def impl_Wide_D : List V → Heap Row → Option (Int × Int)
  | [.c (.int .i64 v1), .c (.int .i64 v2)], [] => some (v1, v2)
  | _, _ => none
theorem impl_Wide_D_ok {vs : List V} {W : Heap Row} {a : Int × Int} (h : impl_Wide_D vs W = some a) : vs = [.c (.int .i64 (a.1)), .c (.int .i64 (a.2))] ∧ W = [] := by
  unfold impl_Wide_D at h
  split at h
  · simp at h; subst h; exact ⟨rfl, rfl⟩
  · simp at h
noncomputable def impl_Wide_C : Callee Row := ⟨[], fun _ vs W K => (impl_Wide_D vs W).bind fun a => (impl_Wide a.1 a.2).bind fun r => K (.t [(false, [.int .i64 r.1]), (false, [.int .i64 r.2])]) []⟩
theorem impl_Wide_ok : CalleeOk Try.prog rowU 249 impl_Wide_C := by
  refine calleeP (nl := false) (m0 := 0) (T := [(250, impl_BoundsOk_C), (289, impl_Pack_C), (290, impl_Unpack_C)]) (H := []) (TabOk.cons impl_BoundsOk_ok (TabOk.cons impl_Pack_ok (TabOk.cons impl_Unpack_ok TabOk.nil))) (by kernel_rfl) (by kernel_rfl) (fun p hp => nomatch hp) fun ρ vs W K r h => ?_
  obtain ⟨a, ha, h1⟩ := Option.bind_eq_some_iff.1 h
  clear h
  obtain ⟨rfl, rfl⟩ := impl_Wide_D_ok ha
  obtain ⟨q, hq, h2⟩ := Option.bind_eq_some_iff.1 h1
  exact ⟨_, _, h2, (impl_Wide_nf (a.1) (a.2) _ _).trans ((impl_Wide_bind (a.1) (a.2) _).trans (by rw [hq]; rfl))⟩
/-! loop.example/g00249/impl.Exact -/
noncomputable def impl_Exact_K (x0 : Int) (x1 : Int) {ρ : Type} (K : Bool → Option ρ) : Option ρ :=
  Option.bind (impl_Wide x0 x1) fun r1 =>
  Option.bind (impl_BoundsOk x0 x1) fun r2 =>
  cond (r2 == true)
    (cond ((r1.1 == x0) == true)
      (K (r1.2 == x1))
      (K false))
    (K false)
noncomputable def impl_Exact (x0 : Int) (x1 : Int) : Option (Bool) := impl_Exact_K x0 x1 some
theorem impl_Exact_bind (x0 : Int) (x1 : Int) {ρ : Type} (K : Bool → Option ρ) : impl_Exact_K x0 x1 K = (impl_Exact x0 x1).bind K := by
  simp only [impl_Exact, impl_Exact_K, Option.bind_assoc, Option.bind_some, Option.bind_none, cond_bind, sumK_bind]
noncomputable def impl_Exact_E : Env Row := envN false 198 0 [(250, impl_BoundsOk_C), (249, impl_Wide_C)] []
theorem impl_Exact_nf (x0 : Int) (x1 : Int) (ρ : Type) (K : V → Heap Row → Option ρ) : evBody rowU impl_Exact_E (bodyC 198) [.c (.int .i64 x0), .c (.int .i64 x1)] [] K = impl_Exact_K x0 x1 (fun r => K (.c (.bool r)) []) := by kernel_rfl
def impl_Exact_D : List V → Heap Row → Option (Int × Int)
  | [.c (.int .i64 v1), .c (.int .i64 v2)], [] => some (v1, v2)
  | _, _ => none
theorem impl_Exact_D_ok {vs : List V} {W : Heap Row} {a : Int × Int} (h : impl_Exact_D vs W = some a) : vs = [.c (.int .i64 (a.1)), .c (.int .i64 (a.2))] ∧ W = [] := by
  unfold impl_Exact_D at h
  split at h
  · simp at h; subst h; exact ⟨rfl, rfl⟩
  · simp at h
noncomputable def impl_Exact_C : Callee Row := ⟨[], fun _ vs W K => (impl_Exact_D vs W).bind fun a => (impl_Exact a.1 a.2).bind fun r => K (.c (.bool r)) []⟩
theorem impl_Exact_ok : CalleeOk Try.prog rowU 198 impl_Exact_C := by
  refine calleeP (nl := false) (m0 := 0) (T := [(250, impl_BoundsOk_C), (249, impl_Wide_C)]) (H := []) (TabOk.cons impl_BoundsOk_ok (TabOk.cons impl_Wide_ok TabOk.nil)) (by kernel_rfl) (by kernel_rfl) (fun p hp => nomatch hp) fun ρ vs W K r h => ?_
  obtain ⟨a, ha, h1⟩ := Option.bind_eq_some_iff.1 h
  clear h
  obtain ⟨rfl, rfl⟩ := impl_Exact_D_ok ha
  obtain ⟨q, hq, h2⟩ := Option.bind_eq_some_iff.1 h1
  exact ⟨_, _, h2, (impl_Exact_nf (a.1) (a.2) _ _).trans ((impl_Exact_bind (a.1) (a.2) _).trans (by rw [hq]; rfl))⟩
/-! loop.example/g00249/impl.KeyOk -/
noncomputable def impl_KeyOk_K (x0 : GKey) {ρ : Type} (K : Bool → Option ρ) : Option ρ :=
  Option.bind (impl_Exact x0.base x0.top) fun r1 =>
  cond (r1 == true)
    (Option.bind (impl_in x0.perms 0 63) fun r2 =>
    cond (r2 == true)
      (Option.bind (impl_in x0.seal_ 0 7) fun r3 =>
      K r3)
      (K false))
    (K false)
noncomputable def impl_KeyOk (x0 : GKey) : Option (Bool) := impl_KeyOk_K x0 some
theorem impl_KeyOk_bind (x0 : GKey) {ρ : Type} (K : Bool → Option ρ) : impl_KeyOk_K x0 K = (impl_KeyOk x0).bind K := by
  simp only [impl_KeyOk, impl_KeyOk_K, Option.bind_assoc, Option.bind_some, Option.bind_none, cond_bind, sumK_bind]
noncomputable def impl_KeyOk_E : Env Row := envN false 126 0 [(125, impl_in_C), (198, impl_Exact_C)] []
theorem impl_KeyOk_nf (x0 : GKey) (ρ : Type) (K : V → Heap Row → Option ρ) : evBody rowU impl_KeyOk_E (bodyC 126) [.a [.int .i64 x0.base, .int .i64 x0.top, .int .i64 x0.perms, .int .i64 x0.seal_]] [] K = impl_KeyOk_K x0 (fun r => K (.c (.bool r)) []) := by kernel_rfl
def impl_KeyOk_D : List V → Heap Row → Option (GKey)
  | [.a (.int .i64 v1 :: .int .i64 v2 :: .int .i64 v3 :: .int .i64 v4 :: [])], [] => some (⟨v1, v2, v3, v4⟩)
  | _, _ => none
theorem impl_KeyOk_D_ok {vs : List V} {W : Heap Row} {a : GKey} (h : impl_KeyOk_D vs W = some a) : vs = [.a [.int .i64 (a).base, .int .i64 (a).top, .int .i64 (a).perms, .int .i64 (a).seal_]] ∧ W = [] := by
  unfold impl_KeyOk_D at h
  split at h
  · simp at h; subst h; exact ⟨rfl, rfl⟩
  · simp at h
noncomputable def impl_KeyOk_C : Callee Row := ⟨[], fun _ vs W K => (impl_KeyOk_D vs W).bind fun a => (impl_KeyOk a).bind fun r => K (.c (.bool r)) []⟩
theorem impl_KeyOk_ok : CalleeOk Try.prog rowU 126 impl_KeyOk_C := by
  refine calleeP (nl := false) (m0 := 0) (T := [(125, impl_in_C), (198, impl_Exact_C)]) (H := []) (TabOk.cons impl_in_ok (TabOk.cons impl_Exact_ok TabOk.nil)) (by kernel_rfl) (by kernel_rfl) (fun p hp => nomatch hp) fun ρ vs W K r h => ?_
  obtain ⟨a, ha, h1⟩ := Option.bind_eq_some_iff.1 h
  clear h
  obtain ⟨rfl, rfl⟩ := impl_KeyOk_D_ok ha
  obtain ⟨q, hq, h2⟩ := Option.bind_eq_some_iff.1 h1
  exact ⟨_, _, h2, (impl_KeyOk_nf a _ _).trans ((impl_KeyOk_bind a _).trans (by rw [hq]; rfl))⟩
/-! loop.example/g00249/impl.WordOk -/
noncomputable def impl_WordOk_K (x0 : GWord) {ρ : Type} (K : Bool → Option ρ) : Option ρ :=
  cond x0.is
    (Option.bind (impl_in x0.n 0 65535) fun r1 =>
    cond (r1 == true)
      (Option.bind (impl_KeyOk x0.key) fun r2 =>
      K r2)
      (K false))
    (Option.bind (impl_in x0.n 0 65535) fun r3 =>
    cond (r3 == true)
      (K ((x0.key.base == 0) && ((x0.key.top == 0) && ((x0.key.perms == 0) && ((x0.key.seal_ == 0) && true)))))
      (K false))
noncomputable def impl_WordOk (x0 : GWord) : Option (Bool) := impl_WordOk_K x0 some
theorem impl_WordOk_bind (x0 : GWord) {ρ : Type} (K : Bool → Option ρ) : impl_WordOk_K x0 K = (impl_WordOk x0).bind K := by
  simp only [impl_WordOk, impl_WordOk_K, Option.bind_assoc, Option.bind_some, Option.bind_none, cond_bind, sumK_bind]
noncomputable def impl_WordOk_E : Env Row := envN false 32 0 [(125, impl_in_C), (126, impl_KeyOk_C)] []
theorem impl_WordOk_nf (x0 : GWord) (ρ : Type) (K : V → Heap Row → Option ρ) : evBody rowU impl_WordOk_E (bodyC 32) [.a [.int .i64 x0.n, .bool x0.is, .int .i64 x0.key.base, .int .i64 x0.key.top, .int .i64 x0.key.perms, .int .i64 x0.key.seal_]] [] K = impl_WordOk_K x0 (fun r => K (.c (.bool r)) []) := by kernel_rfl
def impl_WordOk_D : List V → Heap Row → Option (GWord)
  | [.a (.int .i64 v1 :: .bool v2 :: .int .i64 v3 :: .int .i64 v4 :: .int .i64 v5 :: .int .i64 v6 :: [])], [] => some (⟨v1, v2, ⟨v3, v4, v5, v6⟩⟩)
  | _, _ => none
theorem impl_WordOk_D_ok {vs : List V} {W : Heap Row} {a : GWord} (h : impl_WordOk_D vs W = some a) : vs = [.a [.int .i64 (a).n, .bool (a).is, .int .i64 (a).key.base, .int .i64 (a).key.top, .int .i64 (a).key.perms, .int .i64 (a).key.seal_]] ∧ W = [] := by
  unfold impl_WordOk_D at h
  split at h
  · simp at h; subst h; exact ⟨rfl, rfl⟩
  · simp at h
noncomputable def impl_WordOk_C : Callee Row := ⟨[], fun _ vs W K => (impl_WordOk_D vs W).bind fun a => (impl_WordOk a).bind fun r => K (.c (.bool r)) []⟩
theorem impl_WordOk_ok : CalleeOk Try.prog rowU 32 impl_WordOk_C := by
  refine calleeP (nl := false) (m0 := 0) (T := [(125, impl_in_C), (126, impl_KeyOk_C)]) (H := []) (TabOk.cons impl_in_ok (TabOk.cons impl_KeyOk_ok TabOk.nil)) (by kernel_rfl) (by kernel_rfl) (fun p hp => nomatch hp) fun ρ vs W K r h => ?_
  obtain ⟨a, ha, h1⟩ := Option.bind_eq_some_iff.1 h
  clear h
  obtain ⟨rfl, rfl⟩ := impl_WordOk_D_ok ha
  obtain ⟨q, hq, h2⟩ := Option.bind_eq_some_iff.1 h1
  exact ⟨_, _, h2, (impl_WordOk_nf a _ _).trans ((impl_WordOk_bind a _).trans (by rw [hq]; rfl))⟩
/-! loop.example/g00249/impl.MemoryOk$1 -/
noncomputable def impl_MemoryOk_1_K (x0 : GWord) {ρ : Type} (K : Bool → Option ρ) : Option ρ :=
  Option.bind (impl_WordOk x0) fun r1 =>
  K (!r1)
noncomputable def impl_MemoryOk_1 (x0 : GWord) : Option (Bool) := impl_MemoryOk_1_K x0 some
theorem impl_MemoryOk_1_bind (x0 : GWord) {ρ : Type} (K : Bool → Option ρ) : impl_MemoryOk_1_K x0 K = (impl_MemoryOk_1 x0).bind K := by
  simp only [impl_MemoryOk_1, impl_MemoryOk_1_K, Option.bind_assoc, Option.bind_some, Option.bind_none, cond_bind, sumK_bind]
noncomputable def impl_MemoryOk_1_E : Env Row := envN false 124 0 [(32, impl_WordOk_C)] []
theorem impl_MemoryOk_1_nf (x0 : GWord) (ρ : Type) (K : V → Heap Row → Option ρ) : evBody rowU impl_MemoryOk_1_E (bodyC 124) [.a [.int .i64 x0.n, .bool x0.is, .int .i64 x0.key.base, .int .i64 x0.key.top, .int .i64 x0.key.perms, .int .i64 x0.key.seal_]] [] K = impl_MemoryOk_1_K x0 (fun r => K (.c (.bool r)) []) := by kernel_rfl
def impl_MemoryOk_1_D : List V → Heap Row → Option (GWord)
  | [.a (.int .i64 v1 :: .bool v2 :: .int .i64 v3 :: .int .i64 v4 :: .int .i64 v5 :: .int .i64 v6 :: [])], [] => some (⟨v1, v2, ⟨v3, v4, v5, v6⟩⟩)
  | _, _ => none
theorem impl_MemoryOk_1_D_ok {vs : List V} {W : Heap Row} {a : GWord} (h : impl_MemoryOk_1_D vs W = some a) : vs = [.a [.int .i64 (a).n, .bool (a).is, .int .i64 (a).key.base, .int .i64 (a).key.top, .int .i64 (a).key.perms, .int .i64 (a).key.seal_]] ∧ W = [] := by
  unfold impl_MemoryOk_1_D at h
  split at h
  · simp at h; subst h; exact ⟨rfl, rfl⟩
  · simp at h
noncomputable def impl_MemoryOk_1_C : Callee Row := ⟨[], fun _ vs W K => (impl_MemoryOk_1_D vs W).bind fun a => (impl_MemoryOk_1 a).bind fun r => K (.c (.bool r)) []⟩
theorem impl_MemoryOk_1_ok : CalleeOk Try.prog rowU 124 impl_MemoryOk_1_C := by
  refine calleeP (nl := false) (m0 := 0) (T := [(32, impl_WordOk_C)]) (H := []) (TabOk.cons impl_WordOk_ok TabOk.nil) (by kernel_rfl) (by kernel_rfl) (fun p hp => nomatch hp) fun ρ vs W K r h => ?_
  obtain ⟨a, ha, h1⟩ := Option.bind_eq_some_iff.1 h
  clear h
  obtain ⟨rfl, rfl⟩ := impl_MemoryOk_1_D_ok ha
  obtain ⟨q, hq, h2⟩ := Option.bind_eq_some_iff.1 h1
  exact ⟨_, _, h2, (impl_MemoryOk_1_nf a _ _).trans ((impl_MemoryOk_1_bind a _).trans (by rw [hq]; rfl))⟩
/-! slices.IndexFunc[[]loop.example/g00249/impl.Word,loop.example/g00249/impl.Word] -/
noncomputable def slices_IndexFunc_124_L0_K (l0 : List GWord) (n1 : Int) (n2 : Int) {ρ : Type} (A : Int → Option ρ) (X : Unit → Option ρ) (R : Int → Option ρ) : Option ρ :=
  cond (decide (n2 < n1))
    (cond (decide (0 ≤ n2)) (cond (decide (n2 < (((l0.length : Nat) : Int)))) (Option.bind (impl_MemoryOk_1 (List.getD l0 (n2.toNat) (default))) fun r1 =>
    cond r1
      (R n2)
      (A (w64 (n2 + 1)))) none) none)
    (X ())
noncomputable def slices_IndexFunc_124_L0_step (l0 : List GWord) (n1 : Int) (s : Int) : Option (Rnd (Int) (Unit) (Int)) := slices_IndexFunc_124_L0_K l0 n1 s (fun s => some (.again s)) (fun t => some (.exit t)) (fun k => some (.ret k))
theorem slices_IndexFunc_124_L0_bind (l0 : List GWord) (n1 : Int) (s : Int) {ρ : Type} (A : Int → Option ρ) (X : Unit → Option ρ) (R : Int → Option ρ) : slices_IndexFunc_124_L0_K l0 n1 s A X R = (slices_IndexFunc_124_L0_step l0 n1 s).bind (rndE A X R) := by
  simp only [slices_IndexFunc_124_L0_step, slices_IndexFunc_124_L0_K, Option.bind_assoc, Option.bind_some, Option.bind_none, cond_bind, sumK_bind, rndE_again, rndE_exit, rndE_ret]
def slices_IndexFunc_124_L0_st (p : List GWord × Int) (s : Int) : List V × Heap Row := ([.c (.sl 0 0), .c (.fn 124 []), .c (.int .i64 (p.2)), .c (.int .i64 (s))], [⟨.row ⟨.word, p.1⟩, 0, 1⟩])
def slices_IndexFunc_124_L0_so (p : List GWord × Int) (t : Unit) : List V × Heap Row := ([], [⟨.row ⟨.word, p.1⟩, 0, 1⟩])
def slices_IndexFunc_124_L0_sr (p : List GWord × Int) (k : Int) : List V × Heap Row := ([.c (.int .i64 (k))], [⟨.row ⟨.word, p.1⟩, 0, 1⟩])
def slices_IndexFunc_124_L0_D : List V → Heap Row → Option ((List GWord × Int) × (Int))
  | [.c (.sl 0 0), .c (.fn 124 []), .c (.int .i64 v1), .c (.int .i64 v2)], [⟨.row ⟨.word, v3⟩, 0, 1⟩] => some ((v3, v1), (v2))
  | _, _ => none
theorem slices_IndexFunc_124_L0_D_ok (vs : List V) (L : Heap Row) (p : List GWord × Int) (s : Int) (h : slices_IndexFunc_124_L0_D vs L = some (p, s)) : slices_IndexFunc_124_L0_st p s = (vs, L) := by
  unfold slices_IndexFunc_124_L0_D at h
  split at h
  · simp at h; obtain ⟨rfl, rfl⟩ := h; rfl
  · simp at h
noncomputable def slices_IndexFunc_124_L0_H : LoopH Row := loopR [0, 1, 7, 8] [] slices_IndexFunc_124_L0_D (fun p => slices_IndexFunc_124_L0_step (p.1) (p.2)) slices_IndexFunc_124_L0_so slices_IndexFunc_124_L0_sr
theorem slices_IndexFunc_124_L0_nf (p : List GWord × Int) (s : Int) (ρ : Type) (again Kx Kr : List V → Heap Row → Option ρ) : evRound rowU (envOf 196 1 [(124, impl_MemoryOk_1_C)] [(0, slices_IndexFunc_124_L0_H)]) 0 slices_IndexFunc_124_L0_H (loopC 196 0) again (slices_IndexFunc_124_L0_st p s).1 (slices_IndexFunc_124_L0_st p s).2 Kx Kr = slices_IndexFunc_124_L0_K (p.1) (p.2) s (fun s => again (slices_IndexFunc_124_L0_st p s).1 (slices_IndexFunc_124_L0_st p s).2) (fun t => Kx (slices_IndexFunc_124_L0_so p t).1 (slices_IndexFunc_124_L0_so p t).2) (fun k => Kr (slices_IndexFunc_124_L0_sr p k).1 (slices_IndexFunc_124_L0_sr p k).2) := by kernel_rfl
theorem slices_IndexFunc_124_L0_ok (hb : LoopsOk Try.prog rowU (envOf 196 1 [(124, impl_MemoryOk_1_C)] [(0, slices_IndexFunc_124_L0_H)]) (loopAt (codeP 196) 0)) : LoopOk Try.prog rowU (envOf 196 1 [(124, impl_MemoryOk_1_C)] [(0, slices_IndexFunc_124_L0_H)]) 0 (loopAt (codeP 196) 0) slices_IndexFunc_124_L0_H :=
  loopR_ok tagOk mixed envNl (envT (TabOk.cons impl_MemoryOk_1_ok TabOk.nil)) hb slices_IndexFunc_124_L0_st slices_IndexFunc_124_L0_D_ok fun p s ρ A Kx Kr => (slices_IndexFunc_124_L0_nf p s ρ A Kx Kr).trans (slices_IndexFunc_124_L0_bind (p.1) (p.2) s _ _ _)
noncomputable def slices_IndexFunc_124_K (x0 : List GWord) {ρ : Type} (K : Int → Option ρ) : Option ρ :=
  Option.bind (runL (slices_IndexFunc_124_L0_step x0 (((x0.length : Nat) : Int))) 0) fun ot2 => sumK ot2
    (fun t2 => K (-1))
    (fun k3 => K k3)
noncomputable def slices_IndexFunc_124 (x0 : List GWord) : Option (Int) := slices_IndexFunc_124_K x0 some
theorem slices_IndexFunc_124_bind (x0 : List GWord) {ρ : Type} (K : Int → Option ρ) : slices_IndexFunc_124_K x0 K = (slices_IndexFunc_124 x0).bind K := by
  simp only [slices_IndexFunc_124, slices_IndexFunc_124_K, Option.bind_assoc, Option.bind_some, Option.bind_none, cond_bind, sumK_bind]
noncomputable def slices_IndexFunc_124_E : Env Row := envN false 196 1 [(124, impl_MemoryOk_1_C)] [(0, slices_IndexFunc_124_L0_H)]
theorem slices_IndexFunc_124_nf (x0 : List GWord) (ρ : Type) (K : V → Heap Row → Option ρ) : evBody rowU slices_IndexFunc_124_E (bodyC 196) [.c (.sl 0 0), .c (.fn 124 [])] [⟨.row ⟨.word, x0⟩, 0, 1⟩] K = slices_IndexFunc_124_K x0 (fun r => K (.c (.int .i64 r)) [⟨.row ⟨.word, x0⟩, 0, 1⟩]) := by kernel_rfl
def slices_IndexFunc_124_D : List V → Heap Row → Option (List GWord)
  | [.c (.sl 0 0), .c (.fn 124 [])], [⟨.row ⟨.word, v1⟩, 0, 1⟩] => some (v1)
  | _, _ => none
theorem slices_IndexFunc_124_D_ok {vs : List V} {W : Heap Row} {a : List GWord} (h : slices_IndexFunc_124_D vs W = some a) : vs = [.c (.sl 0 0), .c (.fn 124 [])] ∧ W = [⟨.row ⟨.word, a⟩, 0, 1⟩] := by
  unfold slices_IndexFunc_124_D at h
  split at h
  · simp at h; subst h; exact ⟨rfl, rfl⟩
  · simp at h
noncomputable def slices_IndexFunc_124_C : Callee Row := ⟨[(false, 0)], fun _ vs W K => (slices_IndexFunc_124_D vs W).bind fun a => (slices_IndexFunc_124 a).bind fun r => K (.c (.int .i64 r)) [⟨.row ⟨.word, a⟩, 0, 1⟩]⟩
theorem slices_IndexFunc_124_ok : CalleeOk Try.prog rowU 196 slices_IndexFunc_124_C := by
  refine calleeP (nl := false) (m0 := 1) (T := [(124, impl_MemoryOk_1_C)]) (H := [(0, slices_IndexFunc_124_L0_H)]) (TabOk.cons impl_MemoryOk_1_ok TabOk.nil) (by kernel_rfl) (by kernel_rfl) (fun p hp hb => by
    simp only [List.mem_cons, List.not_mem_nil, or_false] at hp
    subst hp
    exact slices_IndexFunc_124_L0_ok hb) fun ρ vs W K r h => ?_
  obtain ⟨a, ha, h1⟩ := Option.bind_eq_some_iff.1 h
  clear h
  obtain ⟨rfl, rfl⟩ := slices_IndexFunc_124_D_ok ha
  obtain ⟨q, hq, h2⟩ := Option.bind_eq_some_iff.1 h1
  exact ⟨_, _, h2, (slices_IndexFunc_124_nf a _ _).trans ((slices_IndexFunc_124_bind a _).trans (by rw [hq]; rfl))⟩
/-! slices.ContainsFunc[[]loop.example/g00249/impl.Word,loop.example/g00249/impl.Word] -/
noncomputable def slices_ContainsFunc_124_K (x0 : List GWord) {ρ : Type} (K : Bool → Option ρ) : Option ρ :=
  Option.bind (slices_IndexFunc_124 x0) fun r1 =>
  K (decide (r1 ≥ 0))
noncomputable def slices_ContainsFunc_124 (x0 : List GWord) : Option (Bool) := slices_ContainsFunc_124_K x0 some
theorem slices_ContainsFunc_124_bind (x0 : List GWord) {ρ : Type} (K : Bool → Option ρ) : slices_ContainsFunc_124_K x0 K = (slices_ContainsFunc_124 x0).bind K := by
  simp only [slices_ContainsFunc_124, slices_ContainsFunc_124_K, Option.bind_assoc, Option.bind_some, Option.bind_none, cond_bind, sumK_bind]
noncomputable def slices_ContainsFunc_124_E : Env Row := envN false 113 1 [(196, slices_IndexFunc_124_C)] []
theorem slices_ContainsFunc_124_nf (x0 : List GWord) (ρ : Type) (K : V → Heap Row → Option ρ) : evBody rowU slices_ContainsFunc_124_E (bodyC 113) [.c (.sl 0 0), .c (.fn 124 [])] [⟨.row ⟨.word, x0⟩, 0, 1⟩] K = slices_ContainsFunc_124_K x0 (fun r => K (.c (.bool r)) [⟨.row ⟨.word, x0⟩, 0, 1⟩]) := by kernel_rfl
def slices_ContainsFunc_124_D : List V → Heap Row → Option (List GWord)
  | [.c (.sl 0 0), .c (.fn 124 [])], [⟨.row ⟨.word, v1⟩, 0, 1⟩] => some (v1)
  | _, _ => none
theorem slices_ContainsFunc_124_D_ok {vs : List V} {W : Heap Row} {a : List GWord} (h : slices_ContainsFunc_124_D vs W = some a) : vs = [.c (.sl 0 0), .c (.fn 124 [])] ∧ W = [⟨.row ⟨.word, a⟩, 0, 1⟩] := by
  unfold slices_ContainsFunc_124_D at h
  split at h
  · simp at h; subst h; exact ⟨rfl, rfl⟩
  · simp at h
noncomputable def slices_ContainsFunc_124_C : Callee Row := ⟨[(false, 0)], fun _ vs W K => (slices_ContainsFunc_124_D vs W).bind fun a => (slices_ContainsFunc_124 a).bind fun r => K (.c (.bool r)) [⟨.row ⟨.word, a⟩, 0, 1⟩]⟩
theorem slices_ContainsFunc_124_ok : CalleeOk Try.prog rowU 113 slices_ContainsFunc_124_C := by
  refine calleeP (nl := false) (m0 := 1) (T := [(196, slices_IndexFunc_124_C)]) (H := []) (TabOk.cons slices_IndexFunc_124_ok TabOk.nil) (by kernel_rfl) (by kernel_rfl) (fun p hp => nomatch hp) fun ρ vs W K r h => ?_
  obtain ⟨a, ha, h1⟩ := Option.bind_eq_some_iff.1 h
  clear h
  obtain ⟨rfl, rfl⟩ := slices_ContainsFunc_124_D_ok ha
  obtain ⟨q, hq, h2⟩ := Option.bind_eq_some_iff.1 h1
  exact ⟨_, _, h2, (slices_ContainsFunc_124_nf a _ _).trans ((slices_ContainsFunc_124_bind a _).trans (by rw [hq]; rfl))⟩
/-! loop.example/g00249/impl.MemoryOk -/
noncomputable def impl_MemoryOk_K (x0 : GMemory) {ρ : Type} (K : Bool → Option ρ) : Option ρ :=
  cond (((((x0.words.length : Nat) : Int)) == 24) == true)
    (cond (((((x0.gone.length : Nat) : Int)) == 24) == true)
      (Option.bind (slices_ContainsFunc_124 x0.words) fun r1 =>
      K (!r1))
      (K false))
    (K false)
noncomputable def impl_MemoryOk (x0 : GMemory) : Option (Bool) := impl_MemoryOk_K x0 some
theorem impl_MemoryOk_bind (x0 : GMemory) {ρ : Type} (K : Bool → Option ρ) : impl_MemoryOk_K x0 K = (impl_MemoryOk x0).bind K := by
  simp only [impl_MemoryOk, impl_MemoryOk_K, Option.bind_assoc, Option.bind_some, Option.bind_none, cond_bind, sumK_bind]
noncomputable def impl_MemoryOk_E : Env Row := envN false 31 2 [(113, slices_ContainsFunc_124_C)] []
theorem impl_MemoryOk_nf (x0 : GMemory) (ρ : Type) (K : V → Heap Row → Option ρ) : evBody rowU impl_MemoryOk_E (bodyC 31) [.a [.sl 0 0, .sl 1 0]] [⟨.row ⟨.word, x0.words⟩, 0, 1⟩, ⟨.row ⟨.bool, x0.gone⟩, 0, 1⟩] K = impl_MemoryOk_K x0 (fun r => K (.c (.bool r)) [⟨.row ⟨.word, x0.words⟩, 0, 1⟩, ⟨.row ⟨.bool, x0.gone⟩, 0, 1⟩]) := by kernel_rfl
def impl_MemoryOk_D : List V → Heap Row → Option (GMemory)
  | [.a (.sl 0 0 :: .sl 1 0 :: [])], [⟨.row ⟨.word, v1⟩, 0, 1⟩, ⟨.row ⟨.bool, v2⟩, 0, 1⟩] => some (⟨v1, v2⟩)
  | _, _ => none
theorem impl_MemoryOk_D_ok {vs : List V} {W : Heap Row} {a : GMemory} (h : impl_MemoryOk_D vs W = some a) : vs = [.a [.sl 0 0, .sl 1 0]] ∧ W = [⟨.row ⟨.word, (a).words⟩, 0, 1⟩, ⟨.row ⟨.bool, (a).gone⟩, 0, 1⟩] := by
  unfold impl_MemoryOk_D at h
  split at h
  · simp at h; subst h; exact ⟨rfl, rfl⟩
  · simp at h
noncomputable def impl_MemoryOk_C : Callee Row := ⟨[(false, 0), (false, 0)], fun _ vs W K => (impl_MemoryOk_D vs W).bind fun a => (impl_MemoryOk a).bind fun r => K (.c (.bool r)) [⟨.row ⟨.word, (a).words⟩, 0, 1⟩, ⟨.row ⟨.bool, (a).gone⟩, 0, 1⟩]⟩
theorem impl_MemoryOk_ok : CalleeOk Try.prog rowU 31 impl_MemoryOk_C := by
  refine calleeP (nl := false) (m0 := 2) (T := [(113, slices_ContainsFunc_124_C)]) (H := []) (TabOk.cons slices_ContainsFunc_124_ok TabOk.nil) (by kernel_rfl) (by kernel_rfl) (fun p hp => nomatch hp) fun ρ vs W K r h => ?_
  obtain ⟨a, ha, h1⟩ := Option.bind_eq_some_iff.1 h
  clear h
  obtain ⟨rfl, rfl⟩ := impl_MemoryOk_D_ok ha
  obtain ⟨q, hq, h2⟩ := Option.bind_eq_some_iff.1 h1
  exact ⟨_, _, h2, (impl_MemoryOk_nf a _ _).trans ((impl_MemoryOk_bind a _).trans (by rw [hq]; rfl))⟩
/-! loop.example/g00249/impl.marked -/
noncomputable def impl_marked_L2_K (l1 : List GSpan) (n2 : Int) (n3 : Int) (n5 : Int) (n6 : Int) (l0 : List Bool) (n4 : Int) {ρ : Type} (A : List Bool × Int → Option ρ) (X : List Bool → Option ρ) (R : List Bool → Option ρ) : Option ρ :=
  cond (decide (n4 < (w64 (n2 + n3))))
    (cond (decide (0 ≤ n4)) (cond (decide (n4 < (((l0.length : Nat) : Int)))) (cond (List.getD l0 (n4.toNat) false)
      (R l0)
      (cond (decide (0 ≤ n4)) (cond (decide (n4 < (((l0.length : Nat) : Int)))) (A (List.set l0 (n4.toNat) true, w64 (n4 + 1))) none) none)) none) none)
    (X l0)
noncomputable def impl_marked_L2_step (l1 : List GSpan) (n2 : Int) (n3 : Int) (n5 : Int) (n6 : Int) (s : List Bool × Int) : Option (Rnd (List Bool × Int) (List Bool) (List Bool)) := impl_marked_L2_K l1 n2 n3 n5 n6 (s.1) (s.2) (fun s => some (.again s)) (fun t => some (.exit t)) (fun k => some (.ret k))
theorem impl_marked_L2_bind (l1 : List GSpan) (n2 : Int) (n3 : Int) (n5 : Int) (n6 : Int) (s : List Bool × Int) {ρ : Type} (A : List Bool × Int → Option ρ) (X : List Bool → Option ρ) (R : List Bool → Option ρ) : impl_marked_L2_K l1 n2 n3 n5 n6 (s.1) (s.2) A X R = (impl_marked_L2_step l1 n2 n3 n5 n6 s).bind (rndE A X R) := by
  simp only [impl_marked_L2_step, impl_marked_L2_K, Option.bind_assoc, Option.bind_some, Option.bind_none, cond_bind, sumK_bind, rndE_again, rndE_exit, rndE_ret]
def impl_marked_L2_st (p : List GSpan × Int × Int × Int × Int) (s : List Bool × Int) : List V × Heap Row := ([.c (.sl 0 0), .c (.sl 1 0), .c (.ptr 2 0), .c (.int .i64 (s.2)), .c (.sl 1 0), .c (.int .i64 (p.2.2.2.1)), .c (.int .i64 (p.2.2.2.2))], [⟨.row ⟨.bool, s.1⟩, 0, 2⟩, ⟨.row ⟨.span, p.1⟩, 0, 1⟩, ⟨.box [.int .i64 (p.2.1), .int .i64 (p.2.2.1)], 0, 2⟩])
def impl_marked_L2_so (p : List GSpan × Int × Int × Int × Int) (t : List Bool) : List V × Heap Row := ([.c (.sl 0 0), .c (.sl 1 0), .c (.sl 1 0), .c (.int .i64 (p.2.2.2.1)), .c (.int .i64 (p.2.2.2.2))], [⟨.row ⟨.bool, t⟩, 0, 2⟩, ⟨.row ⟨.span, p.1⟩, 0, 1⟩])
def impl_marked_L2_sr (p : List GSpan × Int × Int × Int × Int) (k : List Bool) : List V × Heap Row := ([.c (.bool false)], [⟨.row ⟨.bool, k⟩, 0, 2⟩, ⟨.row ⟨.span, p.1⟩, 0, 1⟩])
def impl_marked_L2_D : List V → Heap Row → Option ((List GSpan × Int × Int × Int × Int) × (List Bool × Int))
  | [.c (.sl 0 0), .c (.sl 1 0), .c (.ptr 2 0), .c (.int .i64 v1), .c (.sl 1 0), .c (.int .i64 v2), .c (.int .i64 v3)], [⟨.row ⟨.bool, v4⟩, 0, 2⟩, ⟨.row ⟨.span, v5⟩, 0, 1⟩, ⟨.box [.int .i64 v6, .int .i64 v7], 0, 2⟩] => some ((v5, v6, v7, v2, v3), (v4, v1))
  | _, _ => none
theorem impl_marked_L2_D_ok (vs : List V) (L : Heap Row) (p : List GSpan × Int × Int × Int × Int) (s : List Bool × Int) (h : impl_marked_L2_D vs L = some (p, s)) : impl_marked_L2_st p s = (vs, L) := by
  unfold impl_marked_L2_D at h
  split at h
  · simp at h; obtain ⟨rfl, rfl⟩ := h; rfl
  · simp at h
noncomputable def impl_marked_L2_H : LoopH Row := loopR [0, 1, 6, 7, 8, 9, 10] [0, 1, 8, 9, 10] impl_marked_L2_D (fun p => impl_marked_L2_step (p.1) (p.2.1) (p.2.2.1) (p.2.2.2.1) (p.2.2.2.2)) impl_marked_L2_so impl_marked_L2_sr
noncomputable def impl_marked_L0_K (l1 : List GSpan) (n2 : Int) (l0 : List Bool) (n3 : Int) {ρ : Type} (A : List Bool × Int → Option ρ) (X : List Bool → Option ρ) (R : List Bool → Option ρ) : Option ρ :=
  cond (decide (n3 < n2))
    (cond (decide (0 ≤ n3)) (cond (decide (n3 < (((l1.length : Nat) : Int)))) (cond ((decide ((List.getD l1 (n3.toNat) (default)).len < 1)) == false)
      (Option.bind (impl_in (List.getD l1 (n3.toNat) (default)).at_ 0 23) fun r1 =>
      cond ((!r1) == false)
        (cond ((decide ((List.getD l1 (n3.toNat) (default)).len > (w64 (24 - (List.getD l1 (n3.toNat) (default)).at_)))) == false)
          (cond ((decide (n3 > 0)) == true)
            (cond (decide (0 ≤ (w64 (n3 - 1)))) (cond (decide ((w64 (n3 - 1)) < (((l1.length : Nat) : Int)))) (cond (decide ((List.getD l1 ((w64 (n3 - 1)).toNat) (default)).at_ ≥ (List.getD l1 (n3.toNat) (default)).at_))
              (R l0)
              (Option.bind (runL (impl_marked_L2_step l1 (List.getD l1 (n3.toNat) (default)).at_ (List.getD l1 (n3.toNat) (default)).len n2 n3) (l0, (List.getD l1 (n3.toNat) (default)).at_)) fun ot2 => sumK ot2
                (fun t2 => A (t2, w64 (n3 + 1)))
                (fun k3 => R k3))) none) none)
            (Option.bind (runL (impl_marked_L2_step l1 (List.getD l1 (n3.toNat) (default)).at_ (List.getD l1 (n3.toNat) (default)).len n2 n3) (l0, (List.getD l1 (n3.toNat) (default)).at_)) fun ot4 => sumK ot4
              (fun t4 => A (t4, w64 (n3 + 1)))
              (fun k5 => R k5)))
          (R l0))
        (R l0))
      (R l0)) none) none)
    (X l0)
noncomputable def impl_marked_L0_step (l1 : List GSpan) (n2 : Int) (s : List Bool × Int) : Option (Rnd (List Bool × Int) (List Bool) (List Bool)) := impl_marked_L0_K l1 n2 (s.1) (s.2) (fun s => some (.again s)) (fun t => some (.exit t)) (fun k => some (.ret k))
theorem impl_marked_L0_bind (l1 : List GSpan) (n2 : Int) (s : List Bool × Int) {ρ : Type} (A : List Bool × Int → Option ρ) (X : List Bool → Option ρ) (R : List Bool → Option ρ) : impl_marked_L0_K l1 n2 (s.1) (s.2) A X R = (impl_marked_L0_step l1 n2 s).bind (rndE A X R) := by
  simp only [impl_marked_L0_step, impl_marked_L0_K, Option.bind_assoc, Option.bind_some, Option.bind_none, cond_bind, sumK_bind, rndE_again, rndE_exit, rndE_ret]
def impl_marked_L0_st (p : List GSpan × Int) (s : List Bool × Int) : List V × Heap Row := ([.c (.sl 0 0), .c (.sl 1 0), .c (.sl 1 0), .c (.int .i64 (p.2)), .c (.int .i64 (s.2))], [⟨.row ⟨.bool, s.1⟩, 0, 2⟩, ⟨.row ⟨.span, p.1⟩, 0, 1⟩])
def impl_marked_L0_so (p : List GSpan × Int) (t : List Bool) : List V × Heap Row := ([], [⟨.row ⟨.bool, t⟩, 0, 2⟩, ⟨.row ⟨.span, p.1⟩, 0, 1⟩])
def impl_marked_L0_sr (p : List GSpan × Int) (k : List Bool) : List V × Heap Row := ([.c (.bool false)], [⟨.row ⟨.bool, k⟩, 0, 2⟩, ⟨.row ⟨.span, p.1⟩, 0, 1⟩])
def impl_marked_L0_D : List V → Heap Row → Option ((List GSpan × Int) × (List Bool × Int))
  | [.c (.sl 0 0), .c (.sl 1 0), .c (.sl 1 0), .c (.int .i64 v1), .c (.int .i64 v2)], [⟨.row ⟨.bool, v3⟩, 0, 2⟩, ⟨.row ⟨.span, v4⟩, 0, 1⟩] => some ((v4, v1), (v3, v2))
  | _, _ => none
theorem impl_marked_L0_D_ok (vs : List V) (L : Heap Row) (p : List GSpan × Int) (s : List Bool × Int) (h : impl_marked_L0_D vs L = some (p, s)) : impl_marked_L0_st p s = (vs, L) := by
  unfold impl_marked_L0_D at h
  split at h
  · simp at h; obtain ⟨rfl, rfl⟩ := h; rfl
  · simp at h
noncomputable def impl_marked_L0_H : LoopH Row := loopR [0, 1, 8, 9, 10] [] impl_marked_L0_D (fun p => impl_marked_L0_step (p.1) (p.2)) impl_marked_L0_so impl_marked_L0_sr
theorem impl_marked_L2_nf (p : List GSpan × Int × Int × Int × Int) (s : List Bool × Int) (ρ : Type) (again Kx Kr : List V → Heap Row → Option ρ) : evRound rowU (envOf 139 2 [(125, impl_in_C)] [(2, impl_marked_L2_H), (0, impl_marked_L0_H)]) 2 impl_marked_L2_H (loopC 139 2) again (impl_marked_L2_st p s).1 (impl_marked_L2_st p s).2 Kx Kr = impl_marked_L2_K (p.1) (p.2.1) (p.2.2.1) (p.2.2.2.1) (p.2.2.2.2) (s.1) (s.2) (fun s => again (impl_marked_L2_st p s).1 (impl_marked_L2_st p s).2) (fun t => Kx (impl_marked_L2_so p t).1 (impl_marked_L2_so p t).2) (fun k => Kr (impl_marked_L2_sr p k).1 (impl_marked_L2_sr p k).2) := by kernel_rfl
theorem impl_marked_L2_ok (hb : LoopsOk Try.prog rowU (envOf 139 2 [(125, impl_in_C)] [(2, impl_marked_L2_H), (0, impl_marked_L0_H)]) (loopAt (codeP 139) 2)) : LoopOk Try.prog rowU (envOf 139 2 [(125, impl_in_C)] [(2, impl_marked_L2_H), (0, impl_marked_L0_H)]) 2 (loopAt (codeP 139) 2) impl_marked_L2_H :=
  loopR_ok tagOk mixed envNl (envT (TabOk.cons impl_in_ok TabOk.nil)) hb impl_marked_L2_st impl_marked_L2_D_ok fun p s ρ A Kx Kr => (impl_marked_L2_nf p s ρ A Kx Kr).trans (impl_marked_L2_bind (p.1) (p.2.1) (p.2.2.1) (p.2.2.2.1) (p.2.2.2.2) s _ _ _)
theorem impl_marked_L0_nf (p : List GSpan × Int) (s : List Bool × Int) (ρ : Type) (again Kx Kr : List V → Heap Row → Option ρ) : evRound rowU (envOf 139 2 [(125, impl_in_C)] [(2, impl_marked_L2_H), (0, impl_marked_L0_H)]) 0 impl_marked_L0_H (loopC 139 0) again (impl_marked_L0_st p s).1 (impl_marked_L0_st p s).2 Kx Kr = impl_marked_L0_K (p.1) (p.2) (s.1) (s.2) (fun s => again (impl_marked_L0_st p s).1 (impl_marked_L0_st p s).2) (fun t => Kx (impl_marked_L0_so p t).1 (impl_marked_L0_so p t).2) (fun k => Kr (impl_marked_L0_sr p k).1 (impl_marked_L0_sr p k).2) := by kernel_rfl
theorem impl_marked_L0_ok (hb : LoopsOk Try.prog rowU (envOf 139 2 [(125, impl_in_C)] [(2, impl_marked_L2_H), (0, impl_marked_L0_H)]) (loopAt (codeP 139) 0)) : LoopOk Try.prog rowU (envOf 139 2 [(125, impl_in_C)] [(2, impl_marked_L2_H), (0, impl_marked_L0_H)]) 0 (loopAt (codeP 139) 0) impl_marked_L0_H :=
  loopR_ok tagOk mixed envNl (envT (TabOk.cons impl_in_ok TabOk.nil)) hb impl_marked_L0_st impl_marked_L0_D_ok fun p s ρ A Kx Kr => (impl_marked_L0_nf p s ρ A Kx Kr).trans (impl_marked_L0_bind (p.1) (p.2) s _ _ _)
noncomputable def impl_marked_K (x0 : List Bool) (x1 : List GSpan) {ρ : Type} (K : Bool × List Bool → Option ρ) : Option ρ :=
  Option.bind (runL (impl_marked_L0_step x1 (((x1.length : Nat) : Int))) (x0, 0)) fun ot6 => sumK ot6
    (fun t6 => K (true, t6))
    (fun k7 => K (false, k7))
noncomputable def impl_marked (x0 : List Bool) (x1 : List GSpan) : Option (Bool × List Bool) := impl_marked_K x0 x1 some
theorem impl_marked_bind (x0 : List Bool) (x1 : List GSpan) {ρ : Type} (K : Bool × List Bool → Option ρ) : impl_marked_K x0 x1 K = (impl_marked x0 x1).bind K := by
  simp only [impl_marked, impl_marked_K, Option.bind_assoc, Option.bind_some, Option.bind_none, cond_bind, sumK_bind]
noncomputable def impl_marked_E : Env Row := envN false 139 2 [(125, impl_in_C)] [(2, impl_marked_L2_H), (0, impl_marked_L0_H)]
theorem impl_marked_nf (x0 : List Bool) (x1 : List GSpan) (ρ : Type) (K : V → Heap Row → Option ρ) : evBody rowU impl_marked_E (bodyC 139) [.c (.sl 0 0), .c (.sl 1 0)] [⟨.row ⟨.bool, x0⟩, 0, 2⟩, ⟨.row ⟨.span, x1⟩, 0, 1⟩] K = impl_marked_K x0 x1 (fun r => K (.c (.bool r.1)) [⟨.row ⟨.bool, r.2⟩, 0, 2⟩, ⟨.row ⟨.span, x1⟩, 0, 1⟩]) := by kernel_rfl
def impl_marked_D : List V → Heap Row → Option (List Bool × List GSpan)
  | [.c (.sl 0 0), .c (.sl 1 0)], [⟨.row ⟨.bool, v1⟩, 0, 2⟩, ⟨.row ⟨.span, v2⟩, 0, 1⟩] => some (v1, v2)
  | _, _ => none
theorem impl_marked_D_ok {vs : List V} {W : Heap Row} {a : List Bool × List GSpan} (h : impl_marked_D vs W = some a) : vs = [.c (.sl 0 0), .c (.sl 1 0)] ∧ W = [⟨.row ⟨.bool, a.1⟩, 0, 2⟩, ⟨.row ⟨.span, a.2⟩, 0, 1⟩] := by
  unfold impl_marked_D at h
  split at h
  · simp at h; subst h; exact ⟨rfl, rfl⟩
  · simp at h
noncomputable def impl_marked_C : Callee Row := ⟨[(true, 0), (false, 0)], fun _ vs W K => (impl_marked_D vs W).bind fun a => (impl_marked a.1 a.2).bind fun r => K (.c (.bool r.1)) [⟨.row ⟨.bool, r.2⟩, 0, 2⟩, ⟨.row ⟨.span, a.2⟩, 0, 1⟩]⟩
theorem impl_marked_ok : CalleeOk Try.prog rowU 139 impl_marked_C := by
  refine calleeP (nl := false) (m0 := 2) (T := [(125, impl_in_C)]) (H := [(2, impl_marked_L2_H), (0, impl_marked_L0_H)]) (TabOk.cons impl_in_ok TabOk.nil) (by kernel_rfl) (by kernel_rfl) (fun p hp hb => by
    simp only [List.mem_cons, List.not_mem_nil, or_false] at hp
    rcases hp with rfl | rfl
    · exact impl_marked_L2_ok hb
    · exact impl_marked_L0_ok hb) fun ρ vs W K r h => ?_
  obtain ⟨a, ha, h1⟩ := Option.bind_eq_some_iff.1 h
  clear h
  obtain ⟨rfl, rfl⟩ := impl_marked_D_ok ha
  obtain ⟨q, hq, h2⟩ := Option.bind_eq_some_iff.1 h1
  exact ⟨_, _, h2, (impl_marked_nf (a.1) (a.2) _ _).trans ((impl_marked_bind (a.1) (a.2) _).trans (by rw [hq]; rfl))⟩
/-! loop.example/g00249/impl.HeapOk -/
noncomputable def impl_HeapOk_L0_K (l0 : List GWord) (l1 : List Bool) (l2 : List GSpan) (l3 : List GSpan) (l4 : List Bool) (l5 : List Bool) (n6 : Int) (n7 : Int) {ρ : Type} (A : Int → Option ρ) (X : Unit → Option ρ) (R : Unit → Option ρ) : Option ρ :=
  cond (decide (n7 < n6))
    (cond (decide (0 ≤ n7)) (cond (decide (n7 < (((l5.length : Nat) : Int)))) (cond ((List.getD l5 (n7.toNat) false) == true)
      (cond (decide (0 ≤ n7)) (cond (decide (n7 < (((l4.length : Nat) : Int)))) (cond ((List.getD l4 (n7.toNat) false) == false)
        (cond (decide (0 ≤ n7)) (cond (decide (n7 < (((l1.length : Nat) : Int)))) (cond (!((List.getD l5 (n7.toNat) false) == (List.getD l1 (n7.toNat) false)))
          (R ())
          (A (w64 (n7 + 1)))) none) none)
        (R ())) none) none)
      (cond (decide (0 ≤ n7)) (cond (decide (n7 < (((l1.length : Nat) : Int)))) (cond (!((List.getD l5 (n7.toNat) false) == (List.getD l1 (n7.toNat) false)))
        (R ())
        (A (w64 (n7 + 1)))) none) none)) none) none)
    (X ())
noncomputable def impl_HeapOk_L0_step (l0 : List GWord) (l1 : List Bool) (l2 : List GSpan) (l3 : List GSpan) (l4 : List Bool) (l5 : List Bool) (n6 : Int) (s : Int) : Option (Rnd (Int) (Unit) (Unit)) := impl_HeapOk_L0_K l0 l1 l2 l3 l4 l5 n6 s (fun s => some (.again s)) (fun t => some (.exit t)) (fun k => some (.ret k))
theorem impl_HeapOk_L0_bind (l0 : List GWord) (l1 : List Bool) (l2 : List GSpan) (l3 : List GSpan) (l4 : List Bool) (l5 : List Bool) (n6 : Int) (s : Int) {ρ : Type} (A : Int → Option ρ) (X : Unit → Option ρ) (R : Unit → Option ρ) : impl_HeapOk_L0_K l0 l1 l2 l3 l4 l5 n6 s A X R = (impl_HeapOk_L0_step l0 l1 l2 l3 l4 l5 n6 s).bind (rndE A X R) := by
  simp only [impl_HeapOk_L0_step, impl_HeapOk_L0_K, Option.bind_assoc, Option.bind_some, Option.bind_none, cond_bind, sumK_bind, rndE_again, rndE_exit, rndE_ret]
def impl_HeapOk_L0_st (p : List GWord × List Bool × List GSpan × List GSpan × List Bool × List Bool × Int) (s : Int) : List V × Heap Row := ([.c (.ptr 4 0), .c (.sl 5 0), .c (.sl 6 0), .c (.int .i64 (p.2.2.2.2.2.2)), .c (.int .i64 (s))], [⟨.row ⟨.word, p.1⟩, 0, 1⟩, ⟨.row ⟨.bool, p.2.1⟩, 0, 1⟩, ⟨.row ⟨.span, p.2.2.1⟩, 0, 1⟩, ⟨.row ⟨.span, p.2.2.2.1⟩, 0, 1⟩, ⟨.box [.sl 0 0, .sl 1 0, .sl 2 0, .sl 3 0], 0, 2⟩, ⟨.row ⟨.bool, p.2.2.2.2.1⟩, 0, 2⟩, ⟨.row ⟨.bool, p.2.2.2.2.2.1⟩, 0, 2⟩])
def impl_HeapOk_L0_so (p : List GWord × List Bool × List GSpan × List GSpan × List Bool × List Bool × Int) (t : Unit) : List V × Heap Row := ([], [⟨.row ⟨.word, p.1⟩, 0, 1⟩, ⟨.row ⟨.bool, p.2.1⟩, 0, 1⟩, ⟨.row ⟨.span, p.2.2.1⟩, 0, 1⟩, ⟨.row ⟨.span, p.2.2.2.1⟩, 0, 1⟩])
def impl_HeapOk_L0_sr (p : List GWord × List Bool × List GSpan × List GSpan × List Bool × List Bool × Int) (k : Unit) : List V × Heap Row := ([.c (.bool false)], [⟨.row ⟨.word, p.1⟩, 0, 1⟩, ⟨.row ⟨.bool, p.2.1⟩, 0, 1⟩, ⟨.row ⟨.span, p.2.2.1⟩, 0, 1⟩, ⟨.row ⟨.span, p.2.2.2.1⟩, 0, 1⟩])
def impl_HeapOk_L0_D : List V → Heap Row → Option ((List GWord × List Bool × List GSpan × List GSpan × List Bool × List Bool × Int) × (Int))
  | [.c (.ptr 4 0), .c (.sl 5 0), .c (.sl 6 0), .c (.int .i64 v1), .c (.int .i64 v2)], [⟨.row ⟨.word, v3⟩, 0, 1⟩, ⟨.row ⟨.bool, v4⟩, 0, 1⟩, ⟨.row ⟨.span, v5⟩, 0, 1⟩, ⟨.row ⟨.span, v6⟩, 0, 1⟩, ⟨.box [.sl 0 0, .sl 1 0, .sl 2 0, .sl 3 0], 0, 2⟩, ⟨.row ⟨.bool, v7⟩, 0, 2⟩, ⟨.row ⟨.bool, v8⟩, 0, 2⟩] => some ((v3, v4, v5, v6, v7, v8, v1), (v2))
  | _, _ => none
theorem impl_HeapOk_L0_D_ok (vs : List V) (L : Heap Row) (p : List GWord × List Bool × List GSpan × List GSpan × List Bool × List Bool × Int) (s : Int) (h : impl_HeapOk_L0_D vs L = some (p, s)) : impl_HeapOk_L0_st p s = (vs, L) := by
  unfold impl_HeapOk_L0_D at h
  split at h
  · simp at h; obtain ⟨rfl, rfl⟩ := h; rfl
  · simp at h
noncomputable def impl_HeapOk_L0_H : LoopH Row := loopR [1, 4, 27, 28, 29] [] impl_HeapOk_L0_D (fun p => impl_HeapOk_L0_step (p.1) (p.2.1) (p.2.2.1) (p.2.2.2.1) (p.2.2.2.2.1) (p.2.2.2.2.2.1) (p.2.2.2.2.2.2)) impl_HeapOk_L0_so impl_HeapOk_L0_sr
theorem impl_HeapOk_L0_nf (p : List GWord × List Bool × List GSpan × List GSpan × List Bool × List Bool × Int) (s : Int) (ρ : Type) (again Kx Kr : List V → Heap Row → Option ρ) : evRound rowU (envOf 40 4 [(31, impl_MemoryOk_C), (139, impl_marked_C)] [(0, impl_HeapOk_L0_H)]) 0 impl_HeapOk_L0_H (loopC 40 0) again (impl_HeapOk_L0_st p s).1 (impl_HeapOk_L0_st p s).2 Kx Kr = impl_HeapOk_L0_K (p.1) (p.2.1) (p.2.2.1) (p.2.2.2.1) (p.2.2.2.2.1) (p.2.2.2.2.2.1) (p.2.2.2.2.2.2) s (fun s => again (impl_HeapOk_L0_st p s).1 (impl_HeapOk_L0_st p s).2) (fun t => Kx (impl_HeapOk_L0_so p t).1 (impl_HeapOk_L0_so p t).2) (fun k => Kr (impl_HeapOk_L0_sr p k).1 (impl_HeapOk_L0_sr p k).2) := by kernel_rfl
theorem impl_HeapOk_L0_ok (hb : LoopsOk Try.prog rowU (envOf 40 4 [(31, impl_MemoryOk_C), (139, impl_marked_C)] [(0, impl_HeapOk_L0_H)]) (loopAt (codeP 40) 0)) : LoopOk Try.prog rowU (envOf 40 4 [(31, impl_MemoryOk_C), (139, impl_marked_C)] [(0, impl_HeapOk_L0_H)]) 0 (loopAt (codeP 40) 0) impl_HeapOk_L0_H :=
  loopR_ok tagOk mixed envNl (envT (TabOk.cons impl_MemoryOk_ok (TabOk.cons impl_marked_ok TabOk.nil))) hb impl_HeapOk_L0_st impl_HeapOk_L0_D_ok fun p s ρ A Kx Kr => (impl_HeapOk_L0_nf p s ρ A Kx Kr).trans (impl_HeapOk_L0_bind (p.1) (p.2.1) (p.2.2.1) (p.2.2.2.1) (p.2.2.2.2.1) (p.2.2.2.2.2.1) (p.2.2.2.2.2.2) s _ _ _)
noncomputable def impl_HeapOk_K (x0 : GHeap) {ρ : Type} (K : Bool → Option ρ) : Option ρ :=
  Option.bind (impl_MemoryOk x0.mem) fun r1 =>
  cond ((!r1) == false)
    (Option.bind (impl_marked (List.replicate 24 false) x0.waits) fun r2 =>
    cond ((!r2.1) == false)
      (Option.bind (impl_marked (List.replicate 24 false) x0.live) fun r3 =>
      cond (!r3.1)
        (K false)
        (Option.bind (runL (impl_HeapOk_L0_step x0.mem.words x0.mem.gone x0.live x0.waits r3.2 r2.2 (((r2.2.length : Nat) : Int))) 0) fun ot4 => sumK ot4
          (fun t4 => K true)
          (fun k5 => K false)))
      (K false))
    (K false)
noncomputable def impl_HeapOk (x0 : GHeap) : Option (Bool) := impl_HeapOk_K x0 some
theorem impl_HeapOk_bind (x0 : GHeap) {ρ : Type} (K : Bool → Option ρ) : impl_HeapOk_K x0 K = (impl_HeapOk x0).bind K := by
  simp only [impl_HeapOk, impl_HeapOk_K, Option.bind_assoc, Option.bind_some, Option.bind_none, cond_bind, sumK_bind]
noncomputable def impl_HeapOk_E : Env Row := envN false 40 4 [(31, impl_MemoryOk_C), (139, impl_marked_C)] [(0, impl_HeapOk_L0_H)]
theorem impl_HeapOk_nf (x0 : GHeap) (ρ : Type) (K : V → Heap Row → Option ρ) : evBody rowU impl_HeapOk_E (bodyC 40) [.a [.sl 0 0, .sl 1 0, .sl 2 0, .sl 3 0]] [⟨.row ⟨.word, x0.mem.words⟩, 0, 1⟩, ⟨.row ⟨.bool, x0.mem.gone⟩, 0, 1⟩, ⟨.row ⟨.span, x0.live⟩, 0, 1⟩, ⟨.row ⟨.span, x0.waits⟩, 0, 1⟩] K = impl_HeapOk_K x0 (fun r => K (.c (.bool r)) [⟨.row ⟨.word, x0.mem.words⟩, 0, 1⟩, ⟨.row ⟨.bool, x0.mem.gone⟩, 0, 1⟩, ⟨.row ⟨.span, x0.live⟩, 0, 1⟩, ⟨.row ⟨.span, x0.waits⟩, 0, 1⟩]) := by kernel_rfl
def impl_HeapOk_D : List V → Heap Row → Option (GHeap)
  | [.a (.sl 0 0 :: .sl 1 0 :: .sl 2 0 :: .sl 3 0 :: [])], [⟨.row ⟨.word, v1⟩, 0, 1⟩, ⟨.row ⟨.bool, v2⟩, 0, 1⟩, ⟨.row ⟨.span, v3⟩, 0, 1⟩, ⟨.row ⟨.span, v4⟩, 0, 1⟩] => some (⟨⟨v1, v2⟩, v3, v4⟩)
  | _, _ => none
theorem impl_HeapOk_D_ok {vs : List V} {W : Heap Row} {a : GHeap} (h : impl_HeapOk_D vs W = some a) : vs = [.a [.sl 0 0, .sl 1 0, .sl 2 0, .sl 3 0]] ∧ W = [⟨.row ⟨.word, (a).mem.words⟩, 0, 1⟩, ⟨.row ⟨.bool, (a).mem.gone⟩, 0, 1⟩, ⟨.row ⟨.span, (a).live⟩, 0, 1⟩, ⟨.row ⟨.span, (a).waits⟩, 0, 1⟩] := by
  unfold impl_HeapOk_D at h
  split at h
  · simp at h; subst h; exact ⟨rfl, rfl⟩
  · simp at h
noncomputable def impl_HeapOk_C : Callee Row := ⟨[(false, 0), (false, 0), (false, 0), (false, 0)], fun _ vs W K => (impl_HeapOk_D vs W).bind fun a => (impl_HeapOk a).bind fun r => K (.c (.bool r)) [⟨.row ⟨.word, (a).mem.words⟩, 0, 1⟩, ⟨.row ⟨.bool, (a).mem.gone⟩, 0, 1⟩, ⟨.row ⟨.span, (a).live⟩, 0, 1⟩, ⟨.row ⟨.span, (a).waits⟩, 0, 1⟩]⟩
theorem impl_HeapOk_ok : CalleeOk Try.prog rowU 40 impl_HeapOk_C := by
  refine calleeP (nl := false) (m0 := 4) (T := [(31, impl_MemoryOk_C), (139, impl_marked_C)]) (H := [(0, impl_HeapOk_L0_H)]) (TabOk.cons impl_MemoryOk_ok (TabOk.cons impl_marked_ok TabOk.nil)) (by kernel_rfl) (by kernel_rfl) (fun p hp hb => by
    simp only [List.mem_cons, List.not_mem_nil, or_false] at hp
    subst hp
    exact impl_HeapOk_L0_ok hb) fun ρ vs W K r h => ?_
  obtain ⟨a, ha, h1⟩ := Option.bind_eq_some_iff.1 h
  clear h
  obtain ⟨rfl, rfl⟩ := impl_HeapOk_D_ok ha
  obtain ⟨q, hq, h2⟩ := Option.bind_eq_some_iff.1 h1
  exact ⟨_, _, h2, (impl_HeapOk_nf a _ _).trans ((impl_HeapOk_bind a _).trans (by rw [hq]; rfl))⟩
/-! slices.Grow[[]loop.example/g00249/impl.Span,loop.example/g00249/impl.Span] -/
def slices_Grow_nil_K (x1 : Int) {ρ : Type} (K : List GSpan → Option ρ) : Option ρ :=
  cond (decide (x1 < 0)) none (cond (decide ((w64 (x1 - 0)) > 0))
    (cond (decide (0 < (w64 (x1 - 0)))) (cond (decide (((w64 (x1 - 0)) * 16) ≤ 140737488355328)) (cond (decide (0 ≤ ((((List.replicate ((w64 (x1 - 0)).toNat) (⟨0, 0⟩ : GSpan)).length : Nat) : Int)))) (K (cutL (List.replicate ((w64 (x1 - 0)).toNat) (⟨0, 0⟩ : GSpan)) 0 0)) none) none) none)
    (K []))
def slices_Grow_nil (x1 : Int) : Option (List GSpan) := slices_Grow_nil_K x1 some
theorem slices_Grow_nil_bind (x1 : Int) {ρ : Type} (K : List GSpan → Option ρ) : slices_Grow_nil_K x1 K = (slices_Grow_nil x1).bind K := by
  simp only [slices_Grow_nil, slices_Grow_nil_K, Option.bind_assoc, Option.bind_some, Option.bind_none, cond_bind, sumK_bind]
noncomputable def slices_Grow_nil_E : Env Row := envN false 252 0 [] []
theorem slices_Grow_nil_nf (x1 : Int) (ρ : Type) (K : V → Heap Row → Option ρ) : evBody rowU slices_Grow_nil_E (bodyC 252) [.c (.nils 4), .c (.int .i64 x1)] [] K = slices_Grow_nil_K x1 (fun r => K (.c (.sl 0 0)) [⟨.row ⟨.span, r⟩, 0, 2⟩]) := by kernel_rfl
def slices_Grow_nil_D : List V → Heap Row → Option (Int)
  | [.c (.nils 4), .c (.int .i64 v1)], [] => some (v1)
  | _, _ => none
theorem slices_Grow_nil_D_ok {vs : List V} {W : Heap Row} {a : Int} (h : slices_Grow_nil_D vs W = some a) : vs = [.c (.nils 4), .c (.int .i64 (a))] ∧ W = [] := by
  unfold slices_Grow_nil_D at h
  split at h
  · simp at h; subst h; exact ⟨rfl, rfl⟩
  · simp at h
def slices_Grow_nil_C : Callee Row := ⟨[(false, 999999)], fun _ vs W K => (slices_Grow_nil_D vs W).bind fun a => (slices_Grow_nil a).bind fun r => K (.c (.sl 0 0)) [⟨.row ⟨.span, r⟩, 0, 2⟩]⟩
theorem slices_Grow_nil_ok : CalleeOk Try.prog rowU 252 slices_Grow_nil_C := by
  refine calleeP (nl := false) (m0 := 0) (T := []) (H := []) TabOk.nil (by kernel_rfl) (by kernel_rfl) (fun p hp => nomatch hp) fun ρ vs W K r h => ?_
  obtain ⟨a, ha, h1⟩ := Option.bind_eq_some_iff.1 h
  clear h
  obtain ⟨rfl, rfl⟩ := slices_Grow_nil_D_ok ha
  obtain ⟨q, hq, h2⟩ := Option.bind_eq_some_iff.1 h1
  exact ⟨_, _, h2, (slices_Grow_nil_nf a _ _).trans ((slices_Grow_nil_bind a _).trans (by rw [hq]; rfl))⟩
/-! slices.Concat[[]loop.example/g00249/impl.Span,loop.example/g00249/impl.Span] -/
noncomputable def slices_Concat_sb2_L0_H : LoopH Row := unrollH rowU (envOf 207 3 [(252, slices_Grow_nil_C)] []) 0 [0, 3, 9, 10, 11] [0, 3] (loopC 207 0) 9
theorem slices_Concat_sb2_L0_ok (H : List (Nat × LoopH Row)) : LoopOk Try.prog rowU (envOf 207 3 [(252, slices_Grow_nil_C)] H) 0 (loopAt (codeP 207) 0) slices_Concat_sb2_L0_H :=
  unroll_ok tagOk mixed envNl (envT (TabOk.cons slices_Grow_nil_ok TabOk.nil)) envSame.1 envSame.2.1 envSame.2.2 (loopsOk_none (by kernel_rfl))
noncomputable def slices_Concat_sb2_L2_H : LoopH Row := unrollH rowU (envOf 207 3 [(252, slices_Grow_nil_C)] []) 2 [6, 25, 26, 27] [6] (loopC 207 2) 9
theorem slices_Concat_sb2_L2_ok (H : List (Nat × LoopH Row)) : LoopOk Try.prog rowU (envOf 207 3 [(252, slices_Grow_nil_C)] H) 2 (loopAt (codeP 207) 2) slices_Concat_sb2_L2_H :=
  unroll_ok tagOk mixed envNl (envT (TabOk.cons slices_Grow_nil_ok TabOk.nil)) envSame.1 envSame.2.1 envSame.2.2 (loopsOk_none (by kernel_rfl))
noncomputable def slices_Concat_sb2_K (x0_0 : List GSpan) (x0_1 : List GSpan) {ρ : Type} (K : List GSpan → Option ρ) : Option ρ :=
  cond (decide ((w64 (0 + (((x0_0.length : Nat) : Int)))) < 0)) none (cond (decide ((w64 ((w64 (0 + (((x0_0.length : Nat) : Int)))) + (((x0_1.length : Nat) : Int)))) < 0)) none (Option.bind (slices_Grow_nil (w64 ((w64 (0 + (((x0_0.length : Nat) : Int)))) + (((x0_1.length : Nat) : Int))))) fun r1 =>
  cond (decide ((((r1.length) + (x0_0.length)) * 16) ≤ 140737488355328)) (cond (decide (((((r1 ++ x0_0).length) + (x0_1.length)) * 16) ≤ 140737488355328)) (K ((r1 ++ x0_0) ++ x0_1)) none) none))
noncomputable def slices_Concat_sb2 (x0_0 : List GSpan) (x0_1 : List GSpan) : Option (List GSpan) := slices_Concat_sb2_K x0_0 x0_1 some
theorem slices_Concat_sb2_bind (x0_0 : List GSpan) (x0_1 : List GSpan) {ρ : Type} (K : List GSpan → Option ρ) : slices_Concat_sb2_K x0_0 x0_1 K = (slices_Concat_sb2 x0_0 x0_1).bind K := by
  simp only [slices_Concat_sb2, slices_Concat_sb2_K, Option.bind_assoc, Option.bind_some, Option.bind_none, cond_bind, sumK_bind]
noncomputable def slices_Concat_sb2_E : Env Row := envN false 207 3 [(252, slices_Grow_nil_C)] [(0, slices_Concat_sb2_L0_H), (2, slices_Concat_sb2_L2_H)]
theorem slices_Concat_sb2_nf (x0_0 : List GSpan) (x0_1 : List GSpan) (ρ : Type) (K : V → Heap Row → Option ρ) : evBody rowU slices_Concat_sb2_E (bodyC 207) [.c (.sb 0 2)] [⟨.box [.sl 1 0, .sl 2 0], 0, 1⟩, ⟨.row ⟨.span, x0_0⟩, 0, 1⟩, ⟨.row ⟨.span, x0_1⟩, 0, 1⟩] K = slices_Concat_sb2_K x0_0 x0_1 (fun r => K (.c (.sl 3 0)) [⟨.box [.sl 1 0, .sl 2 0], 0, 1⟩, ⟨.row ⟨.span, x0_0⟩, 0, 1⟩, ⟨.row ⟨.span, x0_1⟩, 0, 1⟩, ⟨.row ⟨.span, r⟩, 0, 2⟩]) := by kernel_rfl
def slices_Concat_sb2_D : List V → Heap Row → Option (List GSpan × List GSpan)
  | [.c (.sb 0 2)], [⟨.box [.sl 1 0, .sl 2 0], 0, 1⟩, ⟨.row ⟨.span, v1⟩, 0, 1⟩, ⟨.row ⟨.span, v2⟩, 0, 1⟩] => some (v1, v2)
  | _, _ => none
theorem slices_Concat_sb2_D_ok {vs : List V} {W : Heap Row} {a : List GSpan × List GSpan} (h : slices_Concat_sb2_D vs W = some a) : vs = [.c (.sb 0 2)] ∧ W = [⟨.box [.sl 1 0, .sl 2 0], 0, 1⟩, ⟨.row ⟨.span, a.1⟩, 0, 1⟩, ⟨.row ⟨.span, a.2⟩, 0, 1⟩] := by
  unfold slices_Concat_sb2_D at h
  split at h
  · simp at h; subst h; exact ⟨rfl, rfl⟩
  · simp at h
noncomputable def slices_Concat_sb2_C : Callee Row := ⟨[(false, 2), (false, 0), (false, 0)], fun _ vs W K => (slices_Concat_sb2_D vs W).bind fun a => (slices_Concat_sb2 a.1 a.2).bind fun r => K (.c (.sl 3 0)) [⟨.box [.sl 1 0, .sl 2 0], 0, 1⟩, ⟨.row ⟨.span, a.1⟩, 0, 1⟩, ⟨.row ⟨.span, a.2⟩, 0, 1⟩, ⟨.row ⟨.span, r⟩, 0, 2⟩]⟩
theorem slices_Concat_sb2_ok : CalleeOk Try.prog rowU 207 slices_Concat_sb2_C := by
  refine calleeP (nl := false) (m0 := 3) (T := [(252, slices_Grow_nil_C)]) (H := [(0, slices_Concat_sb2_L0_H), (2, slices_Concat_sb2_L2_H)]) (TabOk.cons slices_Grow_nil_ok TabOk.nil) (by kernel_rfl) (by kernel_rfl) (fun p hp hb => by
    simp only [List.mem_cons, List.not_mem_nil, or_false] at hp
    rcases hp with rfl | rfl
    · exact slices_Concat_sb2_L0_ok _
    · exact slices_Concat_sb2_L2_ok _) fun ρ vs W K r h => ?_
  obtain ⟨a, ha, h1⟩ := Option.bind_eq_some_iff.1 h
  clear h
  obtain ⟨rfl, rfl⟩ := slices_Concat_sb2_D_ok ha
  obtain ⟨q, hq, h2⟩ := Option.bind_eq_some_iff.1 h1
  exact ⟨_, _, h2, (slices_Concat_sb2_nf (a.1) (a.2) _ _).trans ((slices_Concat_sb2_bind (a.1) (a.2) _).trans (by rw [hq]; rfl))⟩
/-! loop.example/g00249/impl.usedCells -/
noncomputable def impl_usedCells_L2_K (l0 : List GWord) (l1 : List Bool) (l2 : List GSpan) (l3 : List GSpan) (n5 : Int) (n6 : Int) (l7 : List GSpan) (n9 : Int) (n10 : Int) (l4 : List Bool) (n8 : Int) {ρ : Type} (A : List Bool × Int → Option ρ) (X : List Bool → Option ρ) (R : Unit → Option ρ) : Option ρ :=
  cond (decide (n8 < (w64 (n5 + n6))))
    (cond (decide (0 ≤ n8)) (cond (decide (n8 < (((l4.length : Nat) : Int)))) (A (List.set l4 (n8.toNat) true, w64 (n8 + 1))) none) none)
    (X l4)
noncomputable def impl_usedCells_L2_step (l0 : List GWord) (l1 : List Bool) (l2 : List GSpan) (l3 : List GSpan) (n5 : Int) (n6 : Int) (l7 : List GSpan) (n9 : Int) (n10 : Int) (s : List Bool × Int) : Option (Rnd (List Bool × Int) (List Bool) (Unit)) := impl_usedCells_L2_K l0 l1 l2 l3 n5 n6 l7 n9 n10 (s.1) (s.2) (fun s => some (.again s)) (fun t => some (.exit t)) (fun k => some (.ret k))
theorem impl_usedCells_L2_bind (l0 : List GWord) (l1 : List Bool) (l2 : List GSpan) (l3 : List GSpan) (n5 : Int) (n6 : Int) (l7 : List GSpan) (n9 : Int) (n10 : Int) (s : List Bool × Int) {ρ : Type} (A : List Bool × Int → Option ρ) (X : List Bool → Option ρ) (R : Unit → Option ρ) : impl_usedCells_L2_K l0 l1 l2 l3 n5 n6 l7 n9 n10 (s.1) (s.2) A X R = (impl_usedCells_L2_step l0 l1 l2 l3 n5 n6 l7 n9 n10 s).bind (rndE A X R) := by
  simp only [impl_usedCells_L2_step, impl_usedCells_L2_K, Option.bind_assoc, Option.bind_some, Option.bind_none, cond_bind, sumK_bind, rndE_again, rndE_exit, rndE_ret]
def impl_usedCells_L2_st (p : List GWord × List Bool × List GSpan × List GSpan × Int × Int × List GSpan × Int × Int) (s : List Bool × Int) : List V × Heap Row := ([.c (.sl 4 0), .c (.ptr 5 0), .c (.int .i64 (s.2)), .c (.sl 6 0), .c (.int .i64 (p.2.2.2.2.2.2.2.1)), .c (.int .i64 (p.2.2.2.2.2.2.2.2))], [⟨.row ⟨.word, p.1⟩, 0, 1⟩, ⟨.row ⟨.bool, p.2.1⟩, 0, 1⟩, ⟨.row ⟨.span, p.2.2.1⟩, 0, 1⟩, ⟨.row ⟨.span, p.2.2.2.1⟩, 0, 1⟩, ⟨.row ⟨.bool, s.1⟩, 0, 2⟩, ⟨.box [.int .i64 (p.2.2.2.2.1), .int .i64 (p.2.2.2.2.2.1)], 0, 2⟩, ⟨.row ⟨.span, p.2.2.2.2.2.2.1⟩, 0, 2⟩])
def impl_usedCells_L2_so (p : List GWord × List Bool × List GSpan × List GSpan × Int × Int × List GSpan × Int × Int) (t : List Bool) : List V × Heap Row := ([.c (.sl 4 0), .c (.sl 5 0), .c (.int .i64 (p.2.2.2.2.2.2.2.1)), .c (.int .i64 (p.2.2.2.2.2.2.2.2))], [⟨.row ⟨.word, p.1⟩, 0, 1⟩, ⟨.row ⟨.bool, p.2.1⟩, 0, 1⟩, ⟨.row ⟨.span, p.2.2.1⟩, 0, 1⟩, ⟨.row ⟨.span, p.2.2.2.1⟩, 0, 1⟩, ⟨.row ⟨.bool, t⟩, 0, 2⟩, ⟨.row ⟨.span, p.2.2.2.2.2.2.1⟩, 0, 2⟩])
def impl_usedCells_L2_D : List V → Heap Row → Option ((List GWord × List Bool × List GSpan × List GSpan × Int × Int × List GSpan × Int × Int) × (List Bool × Int))
  | [.c (.sl 4 0), .c (.ptr 5 0), .c (.int .i64 v1), .c (.sl 6 0), .c (.int .i64 v2), .c (.int .i64 v3)], [⟨.row ⟨.word, v4⟩, 0, 1⟩, ⟨.row ⟨.bool, v5⟩, 0, 1⟩, ⟨.row ⟨.span, v6⟩, 0, 1⟩, ⟨.row ⟨.span, v7⟩, 0, 1⟩, ⟨.row ⟨.bool, v8⟩, 0, 2⟩, ⟨.box [.int .i64 v9, .int .i64 v10], 0, 2⟩, ⟨.row ⟨.span, v11⟩, 0, 2⟩] => some ((v4, v5, v6, v7, v9, v10, v11, v2, v3), (v8, v1))
  | _, _ => none
theorem impl_usedCells_L2_D_ok (vs : List V) (L : Heap Row) (p : List GWord × List Bool × List GSpan × List GSpan × Int × Int × List GSpan × Int × Int) (s : List Bool × Int) (h : impl_usedCells_L2_D vs L = some (p, s)) : impl_usedCells_L2_st p s = (vs, L) := by
  unfold impl_usedCells_L2_D at h
  split at h
  · simp at h; obtain ⟨rfl, rfl⟩ := h; rfl
  · simp at h
noncomputable def impl_usedCells_L2_H : LoopH Row := loopX [3, 5, 6, 13, 14, 15] [3, 13, 14, 15] impl_usedCells_L2_D (fun p => impl_usedCells_L2_step (p.1) (p.2.1) (p.2.2.1) (p.2.2.2.1) (p.2.2.2.2.1) (p.2.2.2.2.2.1) (p.2.2.2.2.2.2.1) (p.2.2.2.2.2.2.2.1) (p.2.2.2.2.2.2.2.2)) impl_usedCells_L2_so
noncomputable def impl_usedCells_L0_K (l0 : List GWord) (l1 : List Bool) (l2 : List GSpan) (l3 : List GSpan) (l5 : List GSpan) (n6 : Int) (l4 : List Bool) (n7 : Int) {ρ : Type} (A : List Bool × Int → Option ρ) (X : List Bool → Option ρ) (R : Unit → Option ρ) : Option ρ :=
  cond (decide (n7 < n6))
    (cond (decide (0 ≤ n7)) (cond (decide (n7 < (((l5.length : Nat) : Int)))) (Option.bind (runX (impl_usedCells_L2_step l0 l1 l2 l3 (List.getD l5 (n7.toNat) (default)).at_ (List.getD l5 (n7.toNat) (default)).len l5 n6 n7) (l4, (List.getD l5 (n7.toNat) (default)).at_)) fun t2 =>
    A (t2, w64 (n7 + 1))) none) none)
    (X l4)
noncomputable def impl_usedCells_L0_step (l0 : List GWord) (l1 : List Bool) (l2 : List GSpan) (l3 : List GSpan) (l5 : List GSpan) (n6 : Int) (s : List Bool × Int) : Option (Rnd (List Bool × Int) (List Bool) (Unit)) := impl_usedCells_L0_K l0 l1 l2 l3 l5 n6 (s.1) (s.2) (fun s => some (.again s)) (fun t => some (.exit t)) (fun k => some (.ret k))
theorem impl_usedCells_L0_bind (l0 : List GWord) (l1 : List Bool) (l2 : List GSpan) (l3 : List GSpan) (l5 : List GSpan) (n6 : Int) (s : List Bool × Int) {ρ : Type} (A : List Bool × Int → Option ρ) (X : List Bool → Option ρ) (R : Unit → Option ρ) : impl_usedCells_L0_K l0 l1 l2 l3 l5 n6 (s.1) (s.2) A X R = (impl_usedCells_L0_step l0 l1 l2 l3 l5 n6 s).bind (rndE A X R) := by
  simp only [impl_usedCells_L0_step, impl_usedCells_L0_K, Option.bind_assoc, Option.bind_some, Option.bind_none, cond_bind, sumK_bind, rndE_again, rndE_exit, rndE_ret]
def impl_usedCells_L0_st (p : List GWord × List Bool × List GSpan × List GSpan × List GSpan × Int) (s : List Bool × Int) : List V × Heap Row := ([.c (.sl 4 0), .c (.sl 5 0), .c (.int .i64 (p.2.2.2.2.2)), .c (.int .i64 (s.2))], [⟨.row ⟨.word, p.1⟩, 0, 1⟩, ⟨.row ⟨.bool, p.2.1⟩, 0, 1⟩, ⟨.row ⟨.span, p.2.2.1⟩, 0, 1⟩, ⟨.row ⟨.span, p.2.2.2.1⟩, 0, 1⟩, ⟨.row ⟨.bool, s.1⟩, 0, 2⟩, ⟨.row ⟨.span, p.2.2.2.2.1⟩, 0, 2⟩])
def impl_usedCells_L0_so (p : List GWord × List Bool × List GSpan × List GSpan × List GSpan × Int) (t : List Bool) : List V × Heap Row := ([.c (.sl 4 0)], [⟨.row ⟨.word, p.1⟩, 0, 1⟩, ⟨.row ⟨.bool, p.2.1⟩, 0, 1⟩, ⟨.row ⟨.span, p.2.2.1⟩, 0, 1⟩, ⟨.row ⟨.span, p.2.2.2.1⟩, 0, 1⟩, ⟨.row ⟨.bool, t⟩, 0, 2⟩])
def impl_usedCells_L0_D : List V → Heap Row → Option ((List GWord × List Bool × List GSpan × List GSpan × List GSpan × Int) × (List Bool × Int))
  | [.c (.sl 4 0), .c (.sl 5 0), .c (.int .i64 v1), .c (.int .i64 v2)], [⟨.row ⟨.word, v3⟩, 0, 1⟩, ⟨.row ⟨.bool, v4⟩, 0, 1⟩, ⟨.row ⟨.span, v5⟩, 0, 1⟩, ⟨.row ⟨.span, v6⟩, 0, 1⟩, ⟨.row ⟨.bool, v7⟩, 0, 2⟩, ⟨.row ⟨.span, v8⟩, 0, 2⟩] => some ((v3, v4, v5, v6, v8, v1), (v7, v2))
  | _, _ => none
theorem impl_usedCells_L0_D_ok (vs : List V) (L : Heap Row) (p : List GWord × List Bool × List GSpan × List GSpan × List GSpan × Int) (s : List Bool × Int) (h : impl_usedCells_L0_D vs L = some (p, s)) : impl_usedCells_L0_st p s = (vs, L) := by
  unfold impl_usedCells_L0_D at h
  split at h
  · simp at h; obtain ⟨rfl, rfl⟩ := h; rfl
  · simp at h
noncomputable def impl_usedCells_L0_H : LoopH Row := loopX [3, 13, 14, 15] [3] impl_usedCells_L0_D (fun p => impl_usedCells_L0_step (p.1) (p.2.1) (p.2.2.1) (p.2.2.2.1) (p.2.2.2.2.1) (p.2.2.2.2.2)) impl_usedCells_L0_so
theorem impl_usedCells_L2_nf (p : List GWord × List Bool × List GSpan × List GSpan × Int × Int × List GSpan × Int × Int) (s : List Bool × Int) (ρ : Type) (again Kx Kr : List V → Heap Row → Option ρ) : evRound rowU (envOf 135 4 [(207, slices_Concat_sb2_C)] [(2, impl_usedCells_L2_H), (0, impl_usedCells_L0_H)]) 2 impl_usedCells_L2_H (loopC 135 2) again (impl_usedCells_L2_st p s).1 (impl_usedCells_L2_st p s).2 Kx Kr = impl_usedCells_L2_K (p.1) (p.2.1) (p.2.2.1) (p.2.2.2.1) (p.2.2.2.2.1) (p.2.2.2.2.2.1) (p.2.2.2.2.2.2.1) (p.2.2.2.2.2.2.2.1) (p.2.2.2.2.2.2.2.2) (s.1) (s.2) (fun s => again (impl_usedCells_L2_st p s).1 (impl_usedCells_L2_st p s).2) (fun t => Kx (impl_usedCells_L2_so p t).1 (impl_usedCells_L2_so p t).2) (fun _ => none) := by kernel_rfl
theorem impl_usedCells_L2_ok (hb : LoopsOk Try.prog rowU (envOf 135 4 [(207, slices_Concat_sb2_C)] [(2, impl_usedCells_L2_H), (0, impl_usedCells_L0_H)]) (loopAt (codeP 135) 2)) : LoopOk Try.prog rowU (envOf 135 4 [(207, slices_Concat_sb2_C)] [(2, impl_usedCells_L2_H), (0, impl_usedCells_L0_H)]) 2 (loopAt (codeP 135) 2) impl_usedCells_L2_H :=
  loopX_ok tagOk mixed envNl (envT (TabOk.cons slices_Concat_sb2_ok TabOk.nil)) hb impl_usedCells_L2_st impl_usedCells_L2_D_ok fun p s ρ A Kx Kr => (impl_usedCells_L2_nf p s ρ A Kx Kr).trans (impl_usedCells_L2_bind (p.1) (p.2.1) (p.2.2.1) (p.2.2.2.1) (p.2.2.2.2.1) (p.2.2.2.2.2.1) (p.2.2.2.2.2.2.1) (p.2.2.2.2.2.2.2.1) (p.2.2.2.2.2.2.2.2) s _ _ _)
theorem impl_usedCells_L0_nf (p : List GWord × List Bool × List GSpan × List GSpan × List GSpan × Int) (s : List Bool × Int) (ρ : Type) (again Kx Kr : List V → Heap Row → Option ρ) : evRound rowU (envOf 135 4 [(207, slices_Concat_sb2_C)] [(2, impl_usedCells_L2_H), (0, impl_usedCells_L0_H)]) 0 impl_usedCells_L0_H (loopC 135 0) again (impl_usedCells_L0_st p s).1 (impl_usedCells_L0_st p s).2 Kx Kr = impl_usedCells_L0_K (p.1) (p.2.1) (p.2.2.1) (p.2.2.2.1) (p.2.2.2.2.1) (p.2.2.2.2.2) (s.1) (s.2) (fun s => again (impl_usedCells_L0_st p s).1 (impl_usedCells_L0_st p s).2) (fun t => Kx (impl_usedCells_L0_so p t).1 (impl_usedCells_L0_so p t).2) (fun _ => none) := by kernel_rfl
theorem impl_usedCells_L0_ok (hb : LoopsOk Try.prog rowU (envOf 135 4 [(207, slices_Concat_sb2_C)] [(2, impl_usedCells_L2_H), (0, impl_usedCells_L0_H)]) (loopAt (codeP 135) 0)) : LoopOk Try.prog rowU (envOf 135 4 [(207, slices_Concat_sb2_C)] [(2, impl_usedCells_L2_H), (0, impl_usedCells_L0_H)]) 0 (loopAt (codeP 135) 0) impl_usedCells_L0_H :=
  loopX_ok tagOk mixed envNl (envT (TabOk.cons slices_Concat_sb2_ok TabOk.nil)) hb impl_usedCells_L0_st impl_usedCells_L0_D_ok fun p s ρ A Kx Kr => (impl_usedCells_L0_nf p s ρ A Kx Kr).trans (impl_usedCells_L0_bind (p.1) (p.2.1) (p.2.2.1) (p.2.2.2.1) (p.2.2.2.2.1) (p.2.2.2.2.2) s _ _ _)
noncomputable def impl_usedCells_K (x0 : GHeap) {ρ : Type} (K : List Bool → Option ρ) : Option ρ :=
  Option.bind (slices_Concat_sb2 x0.live x0.waits) fun r1 =>
  Option.bind (runX (impl_usedCells_L0_step x0.mem.words x0.mem.gone x0.live x0.waits r1 (((r1.length : Nat) : Int))) (List.replicate 24 false, 0)) fun t3 =>
  K t3
noncomputable def impl_usedCells (x0 : GHeap) : Option (List Bool) := impl_usedCells_K x0 some
theorem impl_usedCells_bind (x0 : GHeap) {ρ : Type} (K : List Bool → Option ρ) : impl_usedCells_K x0 K = (impl_usedCells x0).bind K := by
  simp only [impl_usedCells, impl_usedCells_K, Option.bind_assoc, Option.bind_some, Option.bind_none, cond_bind, sumK_bind]
noncomputable def impl_usedCells_E : Env Row := envN false 135 4 [(207, slices_Concat_sb2_C)] [(2, impl_usedCells_L2_H), (0, impl_usedCells_L0_H)]
theorem impl_usedCells_nf (x0 : GHeap) (ρ : Type) (K : V → Heap Row → Option ρ) : evBody rowU impl_usedCells_E (bodyC 135) [.a [.sl 0 0, .sl 1 0, .sl 2 0, .sl 3 0]] [⟨.row ⟨.word, x0.mem.words⟩, 0, 1⟩, ⟨.row ⟨.bool, x0.mem.gone⟩, 0, 1⟩, ⟨.row ⟨.span, x0.live⟩, 0, 1⟩, ⟨.row ⟨.span, x0.waits⟩, 0, 1⟩] K = impl_usedCells_K x0 (fun r => K (.c (.sl 4 0)) [⟨.row ⟨.word, x0.mem.words⟩, 0, 1⟩, ⟨.row ⟨.bool, x0.mem.gone⟩, 0, 1⟩, ⟨.row ⟨.span, x0.live⟩, 0, 1⟩, ⟨.row ⟨.span, x0.waits⟩, 0, 1⟩, ⟨.row ⟨.bool, r⟩, 0, 2⟩]) := by kernel_rfl
def impl_usedCells_D : List V → Heap Row → Option (GHeap)
  | [.a (.sl 0 0 :: .sl 1 0 :: .sl 2 0 :: .sl 3 0 :: [])], [⟨.row ⟨.word, v1⟩, 0, 1⟩, ⟨.row ⟨.bool, v2⟩, 0, 1⟩, ⟨.row ⟨.span, v3⟩, 0, 1⟩, ⟨.row ⟨.span, v4⟩, 0, 1⟩] => some (⟨⟨v1, v2⟩, v3, v4⟩)
  | _, _ => none
theorem impl_usedCells_D_ok {vs : List V} {W : Heap Row} {a : GHeap} (h : impl_usedCells_D vs W = some a) : vs = [.a [.sl 0 0, .sl 1 0, .sl 2 0, .sl 3 0]] ∧ W = [⟨.row ⟨.word, (a).mem.words⟩, 0, 1⟩, ⟨.row ⟨.bool, (a).mem.gone⟩, 0, 1⟩, ⟨.row ⟨.span, (a).live⟩, 0, 1⟩, ⟨.row ⟨.span, (a).waits⟩, 0, 1⟩] := by
  unfold impl_usedCells_D at h
  split at h
  · simp at h; subst h; exact ⟨rfl, rfl⟩
  · simp at h
noncomputable def impl_usedCells_C : Callee Row := ⟨[(false, 0), (false, 0), (false, 0), (false, 0)], fun _ vs W K => (impl_usedCells_D vs W).bind fun a => (impl_usedCells a).bind fun r => K (.c (.sl 4 0)) [⟨.row ⟨.word, (a).mem.words⟩, 0, 1⟩, ⟨.row ⟨.bool, (a).mem.gone⟩, 0, 1⟩, ⟨.row ⟨.span, (a).live⟩, 0, 1⟩, ⟨.row ⟨.span, (a).waits⟩, 0, 1⟩, ⟨.row ⟨.bool, r⟩, 0, 2⟩]⟩
theorem impl_usedCells_ok : CalleeOk Try.prog rowU 135 impl_usedCells_C := by
  refine calleeP (nl := false) (m0 := 4) (T := [(207, slices_Concat_sb2_C)]) (H := [(2, impl_usedCells_L2_H), (0, impl_usedCells_L0_H)]) (TabOk.cons slices_Concat_sb2_ok TabOk.nil) (by kernel_rfl) (by kernel_rfl) (fun p hp hb => by
    simp only [List.mem_cons, List.not_mem_nil, or_false] at hp
    rcases hp with rfl | rfl
    · exact impl_usedCells_L2_ok hb
    · exact impl_usedCells_L0_ok hb) fun ρ vs W K r h => ?_
  obtain ⟨a, ha, h1⟩ := Option.bind_eq_some_iff.1 h
  clear h
  obtain ⟨rfl, rfl⟩ := impl_usedCells_D_ok ha
  obtain ⟨q, hq, h2⟩ := Option.bind_eq_some_iff.1 h1
  exact ⟨_, _, h2, (impl_usedCells_nf a _ _).trans ((impl_usedCells_bind a _).trans (by rw [hq]; rfl))⟩
/-! loop.example/g00249/impl.FreeCells -/
noncomputable def impl_FreeCells_L0_K (l0 : List GWord) (l1 : List Bool) (l2 : List GSpan) (l3 : List GSpan) (l4 : List Bool) (n6 : Int) (n5 : Int) (n7 : Int) {ρ : Type} (A : Int × Int → Option ρ) (X : Int → Option ρ) (R : Unit → Option ρ) : Option ρ :=
  cond (decide (n7 < n6))
    (cond (decide (0 ≤ n7)) (cond (decide (n7 < (((l4.length : Nat) : Int)))) (cond (!(List.getD l4 (n7.toNat) false))
      (A (w64 (n5 + 1), w64 (n7 + 1)))
      (A (n5, w64 (n7 + 1)))) none) none)
    (X n5)
noncomputable def impl_FreeCells_L0_step (l0 : List GWord) (l1 : List Bool) (l2 : List GSpan) (l3 : List GSpan) (l4 : List Bool) (n6 : Int) (s : Int × Int) : Option (Rnd (Int × Int) (Int) (Unit)) := impl_FreeCells_L0_K l0 l1 l2 l3 l4 n6 (s.1) (s.2) (fun s => some (.again s)) (fun t => some (.exit t)) (fun k => some (.ret k))
theorem impl_FreeCells_L0_bind (l0 : List GWord) (l1 : List Bool) (l2 : List GSpan) (l3 : List GSpan) (l4 : List Bool) (n6 : Int) (s : Int × Int) {ρ : Type} (A : Int × Int → Option ρ) (X : Int → Option ρ) (R : Unit → Option ρ) : impl_FreeCells_L0_K l0 l1 l2 l3 l4 n6 (s.1) (s.2) A X R = (impl_FreeCells_L0_step l0 l1 l2 l3 l4 n6 s).bind (rndE A X R) := by
  simp only [impl_FreeCells_L0_step, impl_FreeCells_L0_K, Option.bind_assoc, Option.bind_some, Option.bind_none, cond_bind, sumK_bind, rndE_again, rndE_exit, rndE_ret]
def impl_FreeCells_L0_st (p : List GWord × List Bool × List GSpan × List GSpan × List Bool × Int) (s : Int × Int) : List V × Heap Row := ([.c (.int .i64 (s.1)), .c (.sl 4 0), .c (.int .i64 (p.2.2.2.2.2)), .c (.int .i64 (s.2))], [⟨.row ⟨.word, p.1⟩, 0, 1⟩, ⟨.row ⟨.bool, p.2.1⟩, 0, 1⟩, ⟨.row ⟨.span, p.2.2.1⟩, 0, 1⟩, ⟨.row ⟨.span, p.2.2.2.1⟩, 0, 1⟩, ⟨.row ⟨.bool, p.2.2.2.2.1⟩, 0, 2⟩])
def impl_FreeCells_L0_so (p : List GWord × List Bool × List GSpan × List GSpan × List Bool × Int) (t : Int) : List V × Heap Row := ([.c (.int .i64 (t))], [⟨.row ⟨.word, p.1⟩, 0, 1⟩, ⟨.row ⟨.bool, p.2.1⟩, 0, 1⟩, ⟨.row ⟨.span, p.2.2.1⟩, 0, 1⟩, ⟨.row ⟨.span, p.2.2.2.1⟩, 0, 1⟩])
def impl_FreeCells_L0_D : List V → Heap Row → Option ((List GWord × List Bool × List GSpan × List GSpan × List Bool × Int) × (Int × Int))
  | [.c (.int .i64 v1), .c (.sl 4 0), .c (.int .i64 v2), .c (.int .i64 v3)], [⟨.row ⟨.word, v4⟩, 0, 1⟩, ⟨.row ⟨.bool, v5⟩, 0, 1⟩, ⟨.row ⟨.span, v6⟩, 0, 1⟩, ⟨.row ⟨.span, v7⟩, 0, 1⟩, ⟨.row ⟨.bool, v8⟩, 0, 2⟩] => some ((v4, v5, v6, v7, v8, v2), (v1, v3))
  | _, _ => none
theorem impl_FreeCells_L0_D_ok (vs : List V) (L : Heap Row) (p : List GWord × List Bool × List GSpan × List GSpan × List Bool × Int) (s : Int × Int) (h : impl_FreeCells_L0_D vs L = some (p, s)) : impl_FreeCells_L0_st p s = (vs, L) := by
  unfold impl_FreeCells_L0_D at h
  split at h
  · simp at h; obtain ⟨rfl, rfl⟩ := h; rfl
  · simp at h
noncomputable def impl_FreeCells_L0_H : LoopH Row := loopX [3, 10, 11, 12] [3] impl_FreeCells_L0_D (fun p => impl_FreeCells_L0_step (p.1) (p.2.1) (p.2.2.1) (p.2.2.2.1) (p.2.2.2.2.1) (p.2.2.2.2.2)) impl_FreeCells_L0_so
theorem impl_FreeCells_L0_nf (p : List GWord × List Bool × List GSpan × List GSpan × List Bool × Int) (s : Int × Int) (ρ : Type) (again Kx Kr : List V → Heap Row → Option ρ) : evRound rowU (envOf 37 4 [(40, impl_HeapOk_C), (135, impl_usedCells_C)] [(0, impl_FreeCells_L0_H)]) 0 impl_FreeCells_L0_H (loopC 37 0) again (impl_FreeCells_L0_st p s).1 (impl_FreeCells_L0_st p s).2 Kx Kr = impl_FreeCells_L0_K (p.1) (p.2.1) (p.2.2.1) (p.2.2.2.1) (p.2.2.2.2.1) (p.2.2.2.2.2) (s.1) (s.2) (fun s => again (impl_FreeCells_L0_st p s).1 (impl_FreeCells_L0_st p s).2) (fun t => Kx (impl_FreeCells_L0_so p t).1 (impl_FreeCells_L0_so p t).2) (fun _ => none) := by kernel_rfl
theorem impl_FreeCells_L0_ok (hb : LoopsOk Try.prog rowU (envOf 37 4 [(40, impl_HeapOk_C), (135, impl_usedCells_C)] [(0, impl_FreeCells_L0_H)]) (loopAt (codeP 37) 0)) : LoopOk Try.prog rowU (envOf 37 4 [(40, impl_HeapOk_C), (135, impl_usedCells_C)] [(0, impl_FreeCells_L0_H)]) 0 (loopAt (codeP 37) 0) impl_FreeCells_L0_H :=
  loopX_ok tagOk mixed envNl (envT (TabOk.cons impl_HeapOk_ok (TabOk.cons impl_usedCells_ok TabOk.nil))) hb impl_FreeCells_L0_st impl_FreeCells_L0_D_ok fun p s ρ A Kx Kr => (impl_FreeCells_L0_nf p s ρ A Kx Kr).trans (impl_FreeCells_L0_bind (p.1) (p.2.1) (p.2.2.1) (p.2.2.2.1) (p.2.2.2.2.1) (p.2.2.2.2.2) s _ _ _)
noncomputable def impl_FreeCells_K (x0 : GHeap) {ρ : Type} (K : Int → Option ρ) : Option ρ :=
  Option.bind (impl_HeapOk x0) fun r1 =>
  cond (!r1)
    (K 0)
    (Option.bind (impl_usedCells x0) fun r2 =>
    Option.bind (runX (impl_FreeCells_L0_step x0.mem.words x0.mem.gone x0.live x0.waits r2 (((r2.length : Nat) : Int))) (0, 0)) fun t3 =>
    K t3)
noncomputable def impl_FreeCells (x0 : GHeap) : Option (Int) := impl_FreeCells_K x0 some
theorem impl_FreeCells_bind (x0 : GHeap) {ρ : Type} (K : Int → Option ρ) : impl_FreeCells_K x0 K = (impl_FreeCells x0).bind K := by
  simp only [impl_FreeCells, impl_FreeCells_K, Option.bind_assoc, Option.bind_some, Option.bind_none, cond_bind, sumK_bind]
noncomputable def impl_FreeCells_E : Env Row := envN false 37 4 [(40, impl_HeapOk_C), (135, impl_usedCells_C)] [(0, impl_FreeCells_L0_H)]
theorem impl_FreeCells_nf (x0 : GHeap) (ρ : Type) (K : V → Heap Row → Option ρ) : evBody rowU impl_FreeCells_E (bodyC 37) [.a [.sl 0 0, .sl 1 0, .sl 2 0, .sl 3 0]] [⟨.row ⟨.word, x0.mem.words⟩, 0, 1⟩, ⟨.row ⟨.bool, x0.mem.gone⟩, 0, 1⟩, ⟨.row ⟨.span, x0.live⟩, 0, 1⟩, ⟨.row ⟨.span, x0.waits⟩, 0, 1⟩] K = impl_FreeCells_K x0 (fun r => K (.c (.int .i64 r)) [⟨.row ⟨.word, x0.mem.words⟩, 0, 1⟩, ⟨.row ⟨.bool, x0.mem.gone⟩, 0, 1⟩, ⟨.row ⟨.span, x0.live⟩, 0, 1⟩, ⟨.row ⟨.span, x0.waits⟩, 0, 1⟩]) := by kernel_rfl
def impl_FreeCells_D : List V → Heap Row → Option (GHeap)
  | [.a (.sl 0 0 :: .sl 1 0 :: .sl 2 0 :: .sl 3 0 :: [])], [⟨.row ⟨.word, v1⟩, 0, 1⟩, ⟨.row ⟨.bool, v2⟩, 0, 1⟩, ⟨.row ⟨.span, v3⟩, 0, 1⟩, ⟨.row ⟨.span, v4⟩, 0, 1⟩] => some (⟨⟨v1, v2⟩, v3, v4⟩)
  | _, _ => none
theorem impl_FreeCells_D_ok {vs : List V} {W : Heap Row} {a : GHeap} (h : impl_FreeCells_D vs W = some a) : vs = [.a [.sl 0 0, .sl 1 0, .sl 2 0, .sl 3 0]] ∧ W = [⟨.row ⟨.word, (a).mem.words⟩, 0, 1⟩, ⟨.row ⟨.bool, (a).mem.gone⟩, 0, 1⟩, ⟨.row ⟨.span, (a).live⟩, 0, 1⟩, ⟨.row ⟨.span, (a).waits⟩, 0, 1⟩] := by
  unfold impl_FreeCells_D at h
  split at h
  · simp at h; subst h; exact ⟨rfl, rfl⟩
  · simp at h
noncomputable def impl_FreeCells_C : Callee Row := ⟨[(false, 0), (false, 0), (false, 0), (false, 0)], fun _ vs W K => (impl_FreeCells_D vs W).bind fun a => (impl_FreeCells a).bind fun r => K (.c (.int .i64 r)) [⟨.row ⟨.word, (a).mem.words⟩, 0, 1⟩, ⟨.row ⟨.bool, (a).mem.gone⟩, 0, 1⟩, ⟨.row ⟨.span, (a).live⟩, 0, 1⟩, ⟨.row ⟨.span, (a).waits⟩, 0, 1⟩]⟩
theorem impl_FreeCells_ok : CalleeOk Try.prog rowU 37 impl_FreeCells_C := by
  refine calleeP (nl := false) (m0 := 4) (T := [(40, impl_HeapOk_C), (135, impl_usedCells_C)]) (H := [(0, impl_FreeCells_L0_H)]) (TabOk.cons impl_HeapOk_ok (TabOk.cons impl_usedCells_ok TabOk.nil)) (by kernel_rfl) (by kernel_rfl) (fun p hp hb => by
    simp only [List.mem_cons, List.not_mem_nil, or_false] at hp
    subst hp
    exact impl_FreeCells_L0_ok hb) fun ρ vs W K r h => ?_
  obtain ⟨a, ha, h1⟩ := Option.bind_eq_some_iff.1 h
  clear h
  obtain ⟨rfl, rfl⟩ := impl_FreeCells_D_ok ha
  obtain ⟨q, hq, h2⟩ := Option.bind_eq_some_iff.1 h1
  exact ⟨_, _, h2, (impl_FreeCells_nf a _ _).trans ((impl_FreeCells_bind a _).trans (by rw [hq]; rfl))⟩
/-! loop.example/g00249/laws.eqKey -/
def laws_eqKey_K (x0 : GKey) (x1 : GKey) {ρ : Type} (K : Bool → Option ρ) : Option ρ :=
  cond (x0.base != x1.base)
    (K false)
    (cond (x0.top != x1.top)
      (K false)
      (cond (x0.perms != x1.perms)
        (K false)
        (cond (x0.seal_ != x1.seal_)
          (K false)
          (K true))))
def laws_eqKey (x0 : GKey) (x1 : GKey) : Option (Bool) := laws_eqKey_K x0 x1 some
theorem laws_eqKey_bind (x0 : GKey) (x1 : GKey) {ρ : Type} (K : Bool → Option ρ) : laws_eqKey_K x0 x1 K = (laws_eqKey x0 x1).bind K := by
  simp only [laws_eqKey, laws_eqKey_K, Option.bind_assoc, Option.bind_some, Option.bind_none, cond_bind, sumK_bind]
noncomputable def laws_eqKey_E : Env Row := envN false 180 0 [] []
theorem laws_eqKey_nf (x0 : GKey) (x1 : GKey) (ρ : Type) (K : V → Heap Row → Option ρ) : evBody rowU laws_eqKey_E (bodyC 180) [.a [.int .i64 x0.base, .int .i64 x0.top, .int .i64 x0.perms, .int .i64 x0.seal_], .a [.int .i64 x1.base, .int .i64 x1.top, .int .i64 x1.perms, .int .i64 x1.seal_]] [] K = laws_eqKey_K x0 x1 (fun r => K (.c (.bool r)) []) := by kernel_rfl
def laws_eqKey_D : List V → Heap Row → Option (GKey × GKey)
  | [.a (.int .i64 v1 :: .int .i64 v2 :: .int .i64 v3 :: .int .i64 v4 :: []), .a (.int .i64 v5 :: .int .i64 v6 :: .int .i64 v7 :: .int .i64 v8 :: [])], [] => some (⟨v1, v2, v3, v4⟩, ⟨v5, v6, v7, v8⟩)
  | _, _ => none
theorem laws_eqKey_D_ok {vs : List V} {W : Heap Row} {a : GKey × GKey} (h : laws_eqKey_D vs W = some a) : vs = [.a [.int .i64 (a.1).base, .int .i64 (a.1).top, .int .i64 (a.1).perms, .int .i64 (a.1).seal_], .a [.int .i64 (a.2).base, .int .i64 (a.2).top, .int .i64 (a.2).perms, .int .i64 (a.2).seal_]] ∧ W = [] := by
  unfold laws_eqKey_D at h
  split at h
  · simp at h; subst h; exact ⟨rfl, rfl⟩
  · simp at h
def laws_eqKey_C : Callee Row := ⟨[], fun _ vs W K => (laws_eqKey_D vs W).bind fun a => (laws_eqKey a.1 a.2).bind fun r => K (.c (.bool r)) []⟩
theorem laws_eqKey_ok : CalleeOk Try.prog rowU 180 laws_eqKey_C := by
  refine calleeP (nl := false) (m0 := 0) (T := []) (H := []) TabOk.nil (by kernel_rfl) (by kernel_rfl) (fun p hp => nomatch hp) fun ρ vs W K r h => ?_
  obtain ⟨a, ha, h1⟩ := Option.bind_eq_some_iff.1 h
  clear h
  obtain ⟨rfl, rfl⟩ := laws_eqKey_D_ok ha
  obtain ⟨q, hq, h2⟩ := Option.bind_eq_some_iff.1 h1
  exact ⟨_, _, h2, (laws_eqKey_nf (a.1) (a.2) _ _).trans ((laws_eqKey_bind (a.1) (a.2) _).trans (by rw [hq]; rfl))⟩
/-! loop.example/g00249/laws.eqWord -/
def laws_eqWord_K (x0 : GWord) (x1 : GWord) {ρ : Type} (K : Bool → Option ρ) : Option ρ :=
  cond (x0.n != x1.n)
    (K false)
    (cond (!(x0.is == x1.is))
      (K false)
      (Option.bind (laws_eqKey x0.key x1.key) fun r1 =>
      cond (!r1)
        (K false)
        (K true)))
def laws_eqWord (x0 : GWord) (x1 : GWord) : Option (Bool) := laws_eqWord_K x0 x1 some
theorem laws_eqWord_bind (x0 : GWord) (x1 : GWord) {ρ : Type} (K : Bool → Option ρ) : laws_eqWord_K x0 x1 K = (laws_eqWord x0 x1).bind K := by
  simp only [laws_eqWord, laws_eqWord_K, Option.bind_assoc, Option.bind_some, Option.bind_none, cond_bind, sumK_bind]
noncomputable def laws_eqWord_E : Env Row := envN false 87 0 [(180, laws_eqKey_C)] []
theorem laws_eqWord_nf (x0 : GWord) (x1 : GWord) (ρ : Type) (K : V → Heap Row → Option ρ) : evBody rowU laws_eqWord_E (bodyC 87) [.a [.int .i64 x0.n, .bool x0.is, .int .i64 x0.key.base, .int .i64 x0.key.top, .int .i64 x0.key.perms, .int .i64 x0.key.seal_], .a [.int .i64 x1.n, .bool x1.is, .int .i64 x1.key.base, .int .i64 x1.key.top, .int .i64 x1.key.perms, .int .i64 x1.key.seal_]] [] K = laws_eqWord_K x0 x1 (fun r => K (.c (.bool r)) []) := by kernel_rfl
def laws_eqWord_D : List V → Heap Row → Option (GWord × GWord)
  | [.a (.int .i64 v1 :: .bool v2 :: .int .i64 v3 :: .int .i64 v4 :: .int .i64 v5 :: .int .i64 v6 :: []), .a (.int .i64 v7 :: .bool v8 :: .int .i64 v9 :: .int .i64 v10 :: .int .i64 v11 :: .int .i64 v12 :: [])], [] => some (⟨v1, v2, ⟨v3, v4, v5, v6⟩⟩, ⟨v7, v8, ⟨v9, v10, v11, v12⟩⟩)
  | _, _ => none
theorem laws_eqWord_D_ok {vs : List V} {W : Heap Row} {a : GWord × GWord} (h : laws_eqWord_D vs W = some a) : vs = [.a [.int .i64 (a.1).n, .bool (a.1).is, .int .i64 (a.1).key.base, .int .i64 (a.1).key.top, .int .i64 (a.1).key.perms, .int .i64 (a.1).key.seal_], .a [.int .i64 (a.2).n, .bool (a.2).is, .int .i64 (a.2).key.base, .int .i64 (a.2).key.top, .int .i64 (a.2).key.perms, .int .i64 (a.2).key.seal_]] ∧ W = [] := by
  unfold laws_eqWord_D at h
  split at h
  · simp at h; subst h; exact ⟨rfl, rfl⟩
  · simp at h
def laws_eqWord_C : Callee Row := ⟨[], fun _ vs W K => (laws_eqWord_D vs W).bind fun a => (laws_eqWord a.1 a.2).bind fun r => K (.c (.bool r)) []⟩
theorem laws_eqWord_ok : CalleeOk Try.prog rowU 87 laws_eqWord_C := by
  refine calleeP (nl := false) (m0 := 0) (T := [(180, laws_eqKey_C)]) (H := []) (TabOk.cons laws_eqKey_ok TabOk.nil) (by kernel_rfl) (by kernel_rfl) (fun p hp => nomatch hp) fun ρ vs W K r h => ?_
  obtain ⟨a, ha, h1⟩ := Option.bind_eq_some_iff.1 h
  clear h
  obtain ⟨rfl, rfl⟩ := laws_eqWord_D_ok ha
  obtain ⟨q, hq, h2⟩ := Option.bind_eq_some_iff.1 h1
  exact ⟨_, _, h2, (laws_eqWord_nf (a.1) (a.2) _ _).trans ((laws_eqWord_bind (a.1) (a.2) _).trans (by rw [hq]; rfl))⟩
/-! loop.example/g00249/laws.eqWordS -/
noncomputable def laws_eqWordS_L0_K (l0 : List GWord) (l1 : List GWord) (n2 : Int) {ρ : Type} (A : Int → Option ρ) (X : Unit → Option ρ) (R : Unit → Option ρ) : Option ρ :=
  cond (decide (n2 < (((l0.length : Nat) : Int))))
    (cond (decide (0 ≤ n2)) (cond (decide (n2 < (((l0.length : Nat) : Int)))) (cond (decide (0 ≤ n2)) (cond (decide (n2 < (((l1.length : Nat) : Int)))) (Option.bind (laws_eqWord (List.getD l0 (n2.toNat) (default)) (List.getD l1 (n2.toNat) (default))) fun r1 =>
    cond (!r1)
      (R ())
      (A (w64 (n2 + 1)))) none) none) none) none)
    (X ())
noncomputable def laws_eqWordS_L0_step (l0 : List GWord) (l1 : List GWord) (s : Int) : Option (Rnd (Int) (Unit) (Unit)) := laws_eqWordS_L0_K l0 l1 s (fun s => some (.again s)) (fun t => some (.exit t)) (fun k => some (.ret k))
theorem laws_eqWordS_L0_bind (l0 : List GWord) (l1 : List GWord) (s : Int) {ρ : Type} (A : Int → Option ρ) (X : Unit → Option ρ) (R : Unit → Option ρ) : laws_eqWordS_L0_K l0 l1 s A X R = (laws_eqWordS_L0_step l0 l1 s).bind (rndE A X R) := by
  simp only [laws_eqWordS_L0_step, laws_eqWordS_L0_K, Option.bind_assoc, Option.bind_some, Option.bind_none, cond_bind, sumK_bind, rndE_again, rndE_exit, rndE_ret]
def laws_eqWordS_L0_st (p : List GWord × List GWord) (s : Int) : List V × Heap Row := ([.c (.sl 0 0), .c (.sl 1 0), .c (.int .i64 (s))], [⟨.row ⟨.word, p.1⟩, 0, 1⟩, ⟨.row ⟨.word, p.2⟩, 0, 1⟩])
def laws_eqWordS_L0_so (p : List GWord × List GWord) (t : Unit) : List V × Heap Row := ([], [⟨.row ⟨.word, p.1⟩, 0, 1⟩, ⟨.row ⟨.word, p.2⟩, 0, 1⟩])
def laws_eqWordS_L0_sr (p : List GWord × List GWord) (k : Unit) : List V × Heap Row := ([.c (.bool false)], [⟨.row ⟨.word, p.1⟩, 0, 1⟩, ⟨.row ⟨.word, p.2⟩, 0, 1⟩])
def laws_eqWordS_L0_D : List V → Heap Row → Option ((List GWord × List GWord) × (Int))
  | [.c (.sl 0 0), .c (.sl 1 0), .c (.int .i64 v1)], [⟨.row ⟨.word, v2⟩, 0, 1⟩, ⟨.row ⟨.word, v3⟩, 0, 1⟩] => some ((v2, v3), (v1))
  | _, _ => none
theorem laws_eqWordS_L0_D_ok (vs : List V) (L : Heap Row) (p : List GWord × List GWord) (s : Int) (h : laws_eqWordS_L0_D vs L = some (p, s)) : laws_eqWordS_L0_st p s = (vs, L) := by
  unfold laws_eqWordS_L0_D at h
  split at h
  · simp at h; obtain ⟨rfl, rfl⟩ := h; rfl
  · simp at h
noncomputable def laws_eqWordS_L0_H : LoopH Row := loopR [0, 1, 5] [] laws_eqWordS_L0_D (fun p => laws_eqWordS_L0_step (p.1) (p.2)) laws_eqWordS_L0_so laws_eqWordS_L0_sr
theorem laws_eqWordS_L0_nf (p : List GWord × List GWord) (s : Int) (ρ : Type) (again Kx Kr : List V → Heap Row → Option ρ) : evRound rowU (envOf 208 2 [(87, laws_eqWord_C)] [(0, laws_eqWordS_L0_H)]) 0 laws_eqWordS_L0_H (loopC 208 0) again (laws_eqWordS_L0_st p s).1 (laws_eqWordS_L0_st p s).2 Kx Kr = laws_eqWordS_L0_K (p.1) (p.2) s (fun s => again (laws_eqWordS_L0_st p s).1 (laws_eqWordS_L0_st p s).2) (fun t => Kx (laws_eqWordS_L0_so p t).1 (laws_eqWordS_L0_so p t).2) (fun k => Kr (laws_eqWordS_L0_sr p k).1 (laws_eqWordS_L0_sr p k).2) := by kernel_rfl
theorem laws_eqWordS_L0_ok (hb : LoopsOk Try.prog rowU (envOf 208 2 [(87, laws_eqWord_C)] [(0, laws_eqWordS_L0_H)]) (loopAt (codeP 208) 0)) : LoopOk Try.prog rowU (envOf 208 2 [(87, laws_eqWord_C)] [(0, laws_eqWordS_L0_H)]) 0 (loopAt (codeP 208) 0) laws_eqWordS_L0_H :=
  loopR_ok tagOk mixed envNl (envT (TabOk.cons laws_eqWord_ok TabOk.nil)) hb laws_eqWordS_L0_st laws_eqWordS_L0_D_ok fun p s ρ A Kx Kr => (laws_eqWordS_L0_nf p s ρ A Kx Kr).trans (laws_eqWordS_L0_bind (p.1) (p.2) s _ _ _)
noncomputable def laws_eqWordS_K (x0 : List GWord) (x1 : List GWord) {ρ : Type} (K : Bool → Option ρ) : Option ρ :=
  cond ((((x0.length : Nat) : Int)) != (((x1.length : Nat) : Int)))
    (K false)
    (Option.bind (runL (laws_eqWordS_L0_step x0 x1) 0) fun ot2 => sumK ot2
      (fun t2 => K true)
      (fun k3 => K false))
noncomputable def laws_eqWordS (x0 : List GWord) (x1 : List GWord) : Option (Bool) := laws_eqWordS_K x0 x1 some
theorem laws_eqWordS_bind (x0 : List GWord) (x1 : List GWord) {ρ : Type} (K : Bool → Option ρ) : laws_eqWordS_K x0 x1 K = (laws_eqWordS x0 x1).bind K := by
  simp only [laws_eqWordS, laws_eqWordS_K, Option.bind_assoc, Option.bind_some, Option.bind_none, cond_bind, sumK_bind]
noncomputable def laws_eqWordS_E : Env Row := envN false 208 2 [(87, laws_eqWord_C)] [(0, laws_eqWordS_L0_H)]
theorem laws_eqWordS_nf (x0 : List GWord) (x1 : List GWord) (ρ : Type) (K : V → Heap Row → Option ρ) : evBody rowU laws_eqWordS_E (bodyC 208) [.c (.sl 0 0), .c (.sl 1 0)] [⟨.row ⟨.word, x0⟩, 0, 1⟩, ⟨.row ⟨.word, x1⟩, 0, 1⟩] K = laws_eqWordS_K x0 x1 (fun r => K (.c (.bool r)) [⟨.row ⟨.word, x0⟩, 0, 1⟩, ⟨.row ⟨.word, x1⟩, 0, 1⟩]) := by kernel_rfl
def laws_eqWordS_D : List V → Heap Row → Option (List GWord × List GWord)
  | [.c (.sl 0 0), .c (.sl 1 0)], [⟨.row ⟨.word, v1⟩, 0, 1⟩, ⟨.row ⟨.word, v2⟩, 0, 1⟩] => some (v1, v2)
  | _, _ => none
theorem laws_eqWordS_D_ok {vs : List V} {W : Heap Row} {a : List GWord × List GWord} (h : laws_eqWordS_D vs W = some a) : vs = [.c (.sl 0 0), .c (.sl 1 0)] ∧ W = [⟨.row ⟨.word, a.1⟩, 0, 1⟩, ⟨.row ⟨.word, a.2⟩, 0, 1⟩] := by
  unfold laws_eqWordS_D at h
  split at h
  · simp at h; subst h; exact ⟨rfl, rfl⟩
  · simp at h
noncomputable def laws_eqWordS_C : Callee Row := ⟨[(false, 0), (false, 0)], fun _ vs W K => (laws_eqWordS_D vs W).bind fun a => (laws_eqWordS a.1 a.2).bind fun r => K (.c (.bool r)) [⟨.row ⟨.word, a.1⟩, 0, 1⟩, ⟨.row ⟨.word, a.2⟩, 0, 1⟩]⟩
theorem laws_eqWordS_ok : CalleeOk Try.prog rowU 208 laws_eqWordS_C := by
  refine calleeP (nl := false) (m0 := 2) (T := [(87, laws_eqWord_C)]) (H := [(0, laws_eqWordS_L0_H)]) (TabOk.cons laws_eqWord_ok TabOk.nil) (by kernel_rfl) (by kernel_rfl) (fun p hp hb => by
    simp only [List.mem_cons, List.not_mem_nil, or_false] at hp
    subst hp
    exact laws_eqWordS_L0_ok hb) fun ρ vs W K r h => ?_
  obtain ⟨a, ha, h1⟩ := Option.bind_eq_some_iff.1 h
  clear h
  obtain ⟨rfl, rfl⟩ := laws_eqWordS_D_ok ha
  obtain ⟨q, hq, h2⟩ := Option.bind_eq_some_iff.1 h1
  exact ⟨_, _, h2, (laws_eqWordS_nf (a.1) (a.2) _ _).trans ((laws_eqWordS_bind (a.1) (a.2) _).trans (by rw [hq]; rfl))⟩
end Go.Eng
