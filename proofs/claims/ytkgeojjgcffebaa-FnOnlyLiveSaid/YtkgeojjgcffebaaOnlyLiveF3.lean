/- Functions of the program, as the evaluator tells them: printed by a program of ours. -/
import Derived.Test.YtkgeojjgcffebaaOnlyLiveFS
import Derived.Test.YtkgeojjgcffebaaOnlyLiveF0
import Derived.Test.YtkgeojjgcffebaaOnlyLiveF1
import Derived.Test.YtkgeojjgcffebaaOnlyLiveF2
set_option linter.unusedVariables false
set_option linter.unusedSimpArgs false
set_option maxRecDepth 20000
namespace Go.Eng
open Go.Proofs
/-! loop.example/g00249/laws.FnOnlyLive -/
noncomputable def laws_FnOnlyLive_L2_K (l0 : List Int) (l1 : List GWord) (l2 : List GWord) (l3 : List GSpan) (l4 : List GWord) (l5 : List Bool) (l6 : List GSpan) (l7 : List GSpan) (n8 : Int) (n9 : Int) {ρ : Type} (A : Int → Option ρ) (X : Unit → Option ρ) (R : Unit → Option ρ) : Option ρ :=
  cond (decide (n9 < (((l2.length : Nat) : Int))))
    (cond (decide (0 ≤ n9)) (cond (decide (n9 < (((l2.length : Nat) : Int)))) (cond ((List.getD l2 (n9.toNat) (default)).is == true)
      (cond (decide (0 ≤ n9)) (cond (decide (n9 < (((l2.length : Nat) : Int)))) (Option.bind (laws_inOne l3 (List.getD l2 (n9.toNat) (default)).key) fun r4 =>
      cond (!r4)
        (R ())
        (A (w64 (n9 + 1)))) none) none)
      (A (w64 (n9 + 1)))) none) none)
    (X ())
noncomputable def laws_FnOnlyLive_L2_step (l0 : List Int) (l1 : List GWord) (l2 : List GWord) (l3 : List GSpan) (l4 : List GWord) (l5 : List Bool) (l6 : List GSpan) (l7 : List GSpan) (n8 : Int) (s : Int) : Option (Rnd (Int) (Unit) (Unit)) := laws_FnOnlyLive_L2_K l0 l1 l2 l3 l4 l5 l6 l7 n8 s (fun s => some (.again s)) (fun t => some (.exit t)) (fun k => some (.ret k))
theorem laws_FnOnlyLive_L2_bind (l0 : List Int) (l1 : List GWord) (l2 : List GWord) (l3 : List GSpan) (l4 : List GWord) (l5 : List Bool) (l6 : List GSpan) (l7 : List GSpan) (n8 : Int) (s : Int) {ρ : Type} (A : Int → Option ρ) (X : Unit → Option ρ) (R : Unit → Option ρ) : laws_FnOnlyLive_L2_K l0 l1 l2 l3 l4 l5 l6 l7 n8 s A X R = (laws_FnOnlyLive_L2_step l0 l1 l2 l3 l4 l5 l6 l7 n8 s).bind (rndE A X R) := by
  simp only [laws_FnOnlyLive_L2_step, laws_FnOnlyLive_L2_K, Option.bind_assoc, Option.bind_some, Option.bind_none, cond_bind, sumK_bind, rndE_again, rndE_exit, rndE_ret]
def laws_FnOnlyLive_L2_st (p : List Int × List GWord × List GWord × List GSpan × List GWord × List Bool × List GSpan × List GSpan × Int) (s : Int) : List V × Heap Row := ([.c (.ptr 1 0), .c (.sl 2 0), .c (.int .i64 (p.2.2.2.2.2.2.2.2)), .c (.sl 3 0), .c (.sl 4 0), .c (.int .i64 (s))], [⟨.row ⟨.byte, p.1⟩, 0, 1⟩, ⟨.box [.sl 5 0, .sl 6 0, .sl 7 0, .sl 8 0], 0, 2⟩, ⟨.row ⟨.word, p.2.1⟩, 0, 2⟩, ⟨.row ⟨.word, p.2.2.1⟩, 0, 2⟩, ⟨.row ⟨.span, p.2.2.2.1⟩, 0, 2⟩, ⟨.row ⟨.word, p.2.2.2.2.1⟩, 0, 2⟩, ⟨.row ⟨.bool, p.2.2.2.2.2.1⟩, 0, 2⟩, ⟨.row ⟨.span, p.2.2.2.2.2.2.1⟩, 0, 2⟩, ⟨.row ⟨.span, p.2.2.2.2.2.2.2.1⟩, 0, 2⟩])
def laws_FnOnlyLive_L2_so (p : List Int × List GWord × List GWord × List GSpan × List GWord × List Bool × List GSpan × List GSpan × Int) (t : Unit) : List V × Heap Row := ([.c (.ptr 1 0), .c (.sl 2 0), .c (.int .i64 (p.2.2.2.2.2.2.2.2))], [⟨.row ⟨.byte, p.1⟩, 0, 1⟩, ⟨.box [.sl 3 0, .sl 4 0, .sl 5 0, .sl 6 0], 0, 2⟩, ⟨.row ⟨.word, p.2.1⟩, 0, 2⟩, ⟨.row ⟨.word, p.2.2.2.2.1⟩, 0, 2⟩, ⟨.row ⟨.bool, p.2.2.2.2.2.1⟩, 0, 2⟩, ⟨.row ⟨.span, p.2.2.2.2.2.2.1⟩, 0, 2⟩, ⟨.row ⟨.span, p.2.2.2.2.2.2.2.1⟩, 0, 2⟩])
def laws_FnOnlyLive_L2_sr (p : List Int × List GWord × List GWord × List GSpan × List GWord × List Bool × List GSpan × List GSpan × Int) (k : Unit) : List V × Heap Row := ([.c (.bool false)], [⟨.row ⟨.byte, p.1⟩, 0, 1⟩])
def laws_FnOnlyLive_L2_D : List V → Heap Row → Option ((List Int × List GWord × List GWord × List GSpan × List GWord × List Bool × List GSpan × List GSpan × Int) × (Int))
  | [.c (.ptr 1 0), .c (.sl 2 0), .c (.int .i64 v1), .c (.sl 3 0), .c (.sl 4 0), .c (.int .i64 v2)], [⟨.row ⟨.byte, v3⟩, 0, 1⟩, ⟨.box [.sl 5 0, .sl 6 0, .sl 7 0, .sl 8 0], 0, 2⟩, ⟨.row ⟨.word, v4⟩, 0, 2⟩, ⟨.row ⟨.word, v5⟩, 0, 2⟩, ⟨.row ⟨.span, v6⟩, 0, 2⟩, ⟨.row ⟨.word, v7⟩, 0, 2⟩, ⟨.row ⟨.bool, v8⟩, 0, 2⟩, ⟨.row ⟨.span, v9⟩, 0, 2⟩, ⟨.row ⟨.span, v10⟩, 0, 2⟩] => some ((v3, v4, v5, v6, v7, v8, v9, v10, v1), (v2))
  | _, _ => none
theorem laws_FnOnlyLive_L2_D_ok (vs : List V) (L : Heap Row) (p : List Int × List GWord × List GWord × List GSpan × List GWord × List Bool × List GSpan × List GSpan × Int) (s : Int) (h : laws_FnOnlyLive_L2_D vs L = some (p, s)) : laws_FnOnlyLive_L2_st p s = (vs, L) := by
  unfold laws_FnOnlyLive_L2_D at h
  split at h
  · simp at h; obtain ⟨rfl, rfl⟩ := h; rfl
  · simp at h
noncomputable def laws_FnOnlyLive_L2_H : LoopH Row := loopR [3, 4, 5, 6, 7, 8] [3, 4, 5] laws_FnOnlyLive_L2_D (fun p => laws_FnOnlyLive_L2_step (p.1) (p.2.1) (p.2.2.1) (p.2.2.2.1) (p.2.2.2.2.1) (p.2.2.2.2.2.1) (p.2.2.2.2.2.2.1) (p.2.2.2.2.2.2.2.1) (p.2.2.2.2.2.2.2.2)) laws_FnOnlyLive_L2_so laws_FnOnlyLive_L2_sr
noncomputable def laws_FnOnlyLive_L0_K (l0 : List Int) (l1 : List GWord) (l2 : List GWord) (l3 : List Bool) (l4 : List GSpan) (l5 : List GSpan) (n6 : Int) {ρ : Type} (A : List GWord × List GWord × List Bool × List GSpan × List GSpan × Int → Option ρ) (X : Unit → Option ρ) (R : Unit → Option ρ) : Option ρ :=
  cond (decide (n6 < 2))
    (cond (decide (((0 + (l1.length)) * 48) ≤ 140737488355328)) (cond (decide ((((([] ++ l1).length) + (l2.length)) * 48) ≤ 140737488355328)) (cond (decide (((0 + (l4.length)) * 16) ≤ 140737488355328)) (cond (decide ((((([] ++ l4).length) + (l5.length)) * 16) ≤ 140737488355328)) (Option.bind (runL (laws_FnOnlyLive_L2_step l0 l1 (([] ++ l1) ++ l2) (([] ++ l4) ++ l5) l2 l3 l4 l5 n6) 0) fun ot5 => sumK ot5
      (fun t5 => Option.bind (impl_Clean (⟨(⟨l2, l3⟩ : GMemory), l4, l5⟩ : GHeap) l1) fun r7 =>
      A (r7.2, r7.1.mem.words, r7.1.mem.gone, r7.1.live, r7.1.waits, w64 (n6 + 1)))
      (fun k6 => R ())) none) none) none) none)
    (X ())
noncomputable def laws_FnOnlyLive_L0_step (l0 : List Int) (s : List GWord × List GWord × List Bool × List GSpan × List GSpan × Int) : Option (Rnd (List GWord × List GWord × List Bool × List GSpan × List GSpan × Int) (Unit) (Unit)) := laws_FnOnlyLive_L0_K l0 (s.1) (s.2.1) (s.2.2.1) (s.2.2.2.1) (s.2.2.2.2.1) (s.2.2.2.2.2) (fun s => some (.again s)) (fun t => some (.exit t)) (fun k => some (.ret k))
theorem laws_FnOnlyLive_L0_bind (l0 : List Int) (s : List GWord × List GWord × List Bool × List GSpan × List GSpan × Int) {ρ : Type} (A : List GWord × List GWord × List Bool × List GSpan × List GSpan × Int → Option ρ) (X : Unit → Option ρ) (R : Unit → Option ρ) : laws_FnOnlyLive_L0_K l0 (s.1) (s.2.1) (s.2.2.1) (s.2.2.2.1) (s.2.2.2.2.1) (s.2.2.2.2.2) A X R = (laws_FnOnlyLive_L0_step l0 s).bind (rndE A X R) := by
  simp only [laws_FnOnlyLive_L0_step, laws_FnOnlyLive_L0_K, Option.bind_assoc, Option.bind_some, Option.bind_none, cond_bind, sumK_bind, rndE_again, rndE_exit, rndE_ret]
def laws_FnOnlyLive_L0_st (p : List Int) (s : List GWord × List GWord × List Bool × List GSpan × List GSpan × Int) : List V × Heap Row := ([.c (.ptr 1 0), .c (.sl 2 0), .c (.int .i64 (s.2.2.2.2.2))], [⟨.row ⟨.byte, p⟩, 0, 1⟩, ⟨.box [.sl 3 0, .sl 4 0, .sl 5 0, .sl 6 0], 0, 2⟩, ⟨.row ⟨.word, s.1⟩, 0, 2⟩, ⟨.row ⟨.word, s.2.1⟩, 0, 2⟩, ⟨.row ⟨.bool, s.2.2.1⟩, 0, 2⟩, ⟨.row ⟨.span, s.2.2.2.1⟩, 0, 2⟩, ⟨.row ⟨.span, s.2.2.2.2.1⟩, 0, 2⟩])
def laws_FnOnlyLive_L0_so (p : List Int) (t : Unit) : List V × Heap Row := ([], [⟨.row ⟨.byte, p⟩, 0, 1⟩])
def laws_FnOnlyLive_L0_sr (p : List Int) (k : Unit) : List V × Heap Row := ([.c (.bool false)], [⟨.row ⟨.byte, p⟩, 0, 1⟩])
def laws_FnOnlyLive_L0_D : List V → Heap Row → Option ((List Int) × (List GWord × List GWord × List Bool × List GSpan × List GSpan × Int))
  | [.c (.ptr 1 0), .c (.sl 2 0), .c (.int .i64 v1)], [⟨.row ⟨.byte, v2⟩, 0, 1⟩, ⟨.box [.sl 3 0, .sl 4 0, .sl 5 0, .sl 6 0], 0, 2⟩, ⟨.row ⟨.word, v3⟩, 0, 2⟩, ⟨.row ⟨.word, v4⟩, 0, 2⟩, ⟨.row ⟨.bool, v5⟩, 0, 2⟩, ⟨.row ⟨.span, v6⟩, 0, 2⟩, ⟨.row ⟨.span, v7⟩, 0, 2⟩] => some ((v2), (v3, v4, v5, v6, v7, v1))
  | _, _ => none
theorem laws_FnOnlyLive_L0_D_ok (vs : List V) (L : Heap Row) (p : List Int) (s : List GWord × List GWord × List Bool × List GSpan × List GSpan × Int) (h : laws_FnOnlyLive_L0_D vs L = some (p, s)) : laws_FnOnlyLive_L0_st p s = (vs, L) := by
  unfold laws_FnOnlyLive_L0_D at h
  split at h
  · simp at h; obtain ⟨rfl, rfl⟩ := h; rfl
  · simp at h
noncomputable def laws_FnOnlyLive_L0_H : LoopH Row := loopR [3, 4, 5] [] laws_FnOnlyLive_L0_D (fun p => laws_FnOnlyLive_L0_step p) laws_FnOnlyLive_L0_so laws_FnOnlyLive_L0_sr
theorem laws_FnOnlyLive_L2_nf (p : List Int × List GWord × List GWord × List GSpan × List GWord × List Bool × List GSpan × List GSpan × Int) (s : Int) (ρ : Type) (again Kx Kr : List V → Heap Row → Option ρ) : evRound rowU (envOf 5 1 [(16, laws_big_C), (39, spec_DrawHeld2_C), (40, impl_HeapOk_C), (41, laws_inOne_C), (42, impl_Clean_C)] [(2, laws_FnOnlyLive_L2_H), (0, laws_FnOnlyLive_L0_H)]) 2 laws_FnOnlyLive_L2_H (loopC 5 2) again (laws_FnOnlyLive_L2_st p s).1 (laws_FnOnlyLive_L2_st p s).2 Kx Kr = laws_FnOnlyLive_L2_K (p.1) (p.2.1) (p.2.2.1) (p.2.2.2.1) (p.2.2.2.2.1) (p.2.2.2.2.2.1) (p.2.2.2.2.2.2.1) (p.2.2.2.2.2.2.2.1) (p.2.2.2.2.2.2.2.2) s (fun s => again (laws_FnOnlyLive_L2_st p s).1 (laws_FnOnlyLive_L2_st p s).2) (fun t => Kx (laws_FnOnlyLive_L2_so p t).1 (laws_FnOnlyLive_L2_so p t).2) (fun k => Kr (laws_FnOnlyLive_L2_sr p k).1 (laws_FnOnlyLive_L2_sr p k).2) := by kernel_rfl
theorem laws_FnOnlyLive_L2_ok (hb : LoopsOk Try.prog rowU (envOf 5 1 [(16, laws_big_C), (39, spec_DrawHeld2_C), (40, impl_HeapOk_C), (41, laws_inOne_C), (42, impl_Clean_C)] [(2, laws_FnOnlyLive_L2_H), (0, laws_FnOnlyLive_L0_H)]) (loopAt (codeP 5) 2)) : LoopOk Try.prog rowU (envOf 5 1 [(16, laws_big_C), (39, spec_DrawHeld2_C), (40, impl_HeapOk_C), (41, laws_inOne_C), (42, impl_Clean_C)] [(2, laws_FnOnlyLive_L2_H), (0, laws_FnOnlyLive_L0_H)]) 2 (loopAt (codeP 5) 2) laws_FnOnlyLive_L2_H :=
  loopR_ok tagOk mixed envNl (envT (TabOk.cons laws_big_ok (TabOk.cons spec_DrawHeld2_ok (TabOk.cons impl_HeapOk_ok (TabOk.cons laws_inOne_ok (TabOk.cons impl_Clean_ok TabOk.nil)))))) hb laws_FnOnlyLive_L2_st laws_FnOnlyLive_L2_D_ok fun p s ρ A Kx Kr => (laws_FnOnlyLive_L2_nf p s ρ A Kx Kr).trans (laws_FnOnlyLive_L2_bind (p.1) (p.2.1) (p.2.2.1) (p.2.2.2.1) (p.2.2.2.2.1) (p.2.2.2.2.2.1) (p.2.2.2.2.2.2.1) (p.2.2.2.2.2.2.2.1) (p.2.2.2.2.2.2.2.2) s _ _ _)
theorem laws_FnOnlyLive_L0_nf (p : List Int) (s : List GWord × List GWord × List Bool × List GSpan × List GSpan × Int) (ρ : Type) (again Kx Kr : List V → Heap Row → Option ρ) : evRound rowU (envOf 5 1 [(16, laws_big_C), (39, spec_DrawHeld2_C), (40, impl_HeapOk_C), (41, laws_inOne_C), (42, impl_Clean_C)] [(2, laws_FnOnlyLive_L2_H), (0, laws_FnOnlyLive_L0_H)]) 0 laws_FnOnlyLive_L0_H (loopC 5 0) again (laws_FnOnlyLive_L0_st p s).1 (laws_FnOnlyLive_L0_st p s).2 Kx Kr = laws_FnOnlyLive_L0_K p (s.1) (s.2.1) (s.2.2.1) (s.2.2.2.1) (s.2.2.2.2.1) (s.2.2.2.2.2) (fun s => again (laws_FnOnlyLive_L0_st p s).1 (laws_FnOnlyLive_L0_st p s).2) (fun t => Kx (laws_FnOnlyLive_L0_so p t).1 (laws_FnOnlyLive_L0_so p t).2) (fun k => Kr (laws_FnOnlyLive_L0_sr p k).1 (laws_FnOnlyLive_L0_sr p k).2) := by kernel_rfl
theorem laws_FnOnlyLive_L0_ok (hb : LoopsOk Try.prog rowU (envOf 5 1 [(16, laws_big_C), (39, spec_DrawHeld2_C), (40, impl_HeapOk_C), (41, laws_inOne_C), (42, impl_Clean_C)] [(2, laws_FnOnlyLive_L2_H), (0, laws_FnOnlyLive_L0_H)]) (loopAt (codeP 5) 0)) : LoopOk Try.prog rowU (envOf 5 1 [(16, laws_big_C), (39, spec_DrawHeld2_C), (40, impl_HeapOk_C), (41, laws_inOne_C), (42, impl_Clean_C)] [(2, laws_FnOnlyLive_L2_H), (0, laws_FnOnlyLive_L0_H)]) 0 (loopAt (codeP 5) 0) laws_FnOnlyLive_L0_H :=
  loopR_ok tagOk mixed envNl (envT (TabOk.cons laws_big_ok (TabOk.cons spec_DrawHeld2_ok (TabOk.cons impl_HeapOk_ok (TabOk.cons laws_inOne_ok (TabOk.cons impl_Clean_ok TabOk.nil)))))) hb laws_FnOnlyLive_L0_st laws_FnOnlyLive_L0_D_ok fun p s ρ A Kx Kr => (laws_FnOnlyLive_L0_nf p s ρ A Kx Kr).trans (laws_FnOnlyLive_L0_bind p s _ _ _)
noncomputable def laws_FnOnlyLive_K (x0 : List Int) {ρ : Type} (K : Bool → Option ρ) : Option ρ :=
  Option.bind (laws_big x0) fun r1 =>
  cond r1
    (K true)
    (Option.bind (spec_DrawHeld2 x0) fun r2 =>
    Option.bind (impl_HeapOk r2.1) fun r3 =>
    cond (!r3)
      (K false)
      (Option.bind (runL (laws_FnOnlyLive_L0_step x0) (r2.2, r2.1.mem.words, r2.1.mem.gone, r2.1.live, r2.1.waits, 0)) fun ot8 => sumK ot8
        (fun t8 => K true)
        (fun k9 => K false)))
noncomputable def laws_FnOnlyLive (x0 : List Int) : Option (Bool) := laws_FnOnlyLive_K x0 some
theorem laws_FnOnlyLive_bind (x0 : List Int) {ρ : Type} (K : Bool → Option ρ) : laws_FnOnlyLive_K x0 K = (laws_FnOnlyLive x0).bind K := by
  simp only [laws_FnOnlyLive, laws_FnOnlyLive_K, Option.bind_assoc, Option.bind_some, Option.bind_none, cond_bind, sumK_bind]
noncomputable def laws_FnOnlyLive_E : Env Row := envN false 5 1 [(16, laws_big_C), (39, spec_DrawHeld2_C), (40, impl_HeapOk_C), (41, laws_inOne_C), (42, impl_Clean_C)] [(2, laws_FnOnlyLive_L2_H), (0, laws_FnOnlyLive_L0_H)]
theorem laws_FnOnlyLive_nf (x0 : List Int) (ρ : Type) (K : V → Heap Row → Option ρ) : evBody rowU laws_FnOnlyLive_E (bodyC 5) [.c (.sl 0 0)] [⟨.row ⟨.byte, x0⟩, 0, 1⟩] K = laws_FnOnlyLive_K x0 (fun r => K (.c (.bool r)) [⟨.row ⟨.byte, x0⟩, 0, 1⟩]) := by kernel_rfl
def laws_FnOnlyLive_D : List V → Heap Row → Option (List Int)
  | [.c (.sl 0 0)], [⟨.row ⟨.byte, v1⟩, 0, 1⟩] => some (v1)
  | _, _ => none
theorem laws_FnOnlyLive_D_ok {vs : List V} {W : Heap Row} {a : List Int} (h : laws_FnOnlyLive_D vs W = some a) : vs = [.c (.sl 0 0)] ∧ W = [⟨.row ⟨.byte, a⟩, 0, 1⟩] := by
  unfold laws_FnOnlyLive_D at h
  split at h
  · simp at h; subst h; exact ⟨rfl, rfl⟩
  · simp at h
noncomputable def laws_FnOnlyLive_C : Callee Row := ⟨[(false, 0)], fun _ vs W K => (laws_FnOnlyLive_D vs W).bind fun a => (laws_FnOnlyLive a).bind fun r => K (.c (.bool r)) [⟨.row ⟨.byte, a⟩, 0, 1⟩]⟩
theorem laws_FnOnlyLive_ok : CalleeOk Try.prog rowU 5 laws_FnOnlyLive_C := by
  refine calleeP (nl := false) (m0 := 1) (T := [(16, laws_big_C), (39, spec_DrawHeld2_C), (40, impl_HeapOk_C), (41, laws_inOne_C), (42, impl_Clean_C)]) (H := [(2, laws_FnOnlyLive_L2_H), (0, laws_FnOnlyLive_L0_H)]) (TabOk.cons laws_big_ok (TabOk.cons spec_DrawHeld2_ok (TabOk.cons impl_HeapOk_ok (TabOk.cons laws_inOne_ok (TabOk.cons impl_Clean_ok TabOk.nil))))) (by kernel_rfl) (by kernel_rfl) (fun p hp hb => by
    simp only [List.mem_cons, List.not_mem_nil, or_false] at hp
    rcases hp with rfl | rfl
    · exact laws_FnOnlyLive_L2_ok hb
    · exact laws_FnOnlyLive_L0_ok hb) fun ρ vs W K r h => ?_
  obtain ⟨a, ha, h1⟩ := Option.bind_eq_some_iff.1 h
  clear h
  obtain ⟨rfl, rfl⟩ := laws_FnOnlyLive_D_ok ha
  obtain ⟨q, hq, h2⟩ := Option.bind_eq_some_iff.1 h1
  exact ⟨_, _, h2, (laws_FnOnlyLive_nf a _ _).trans ((laws_FnOnlyLive_bind a _).trans (by rw [hq]; rfl))⟩
end Go.Eng
