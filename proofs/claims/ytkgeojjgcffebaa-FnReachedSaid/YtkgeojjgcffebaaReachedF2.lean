/- Functions of the program, as the evaluator tells them: printed by a program of ours. -/
import Derived.Test.YtkgeojjgcffebaaReachedFS
import Derived.Test.YtkgeojjgcffebaaReachedF0
import Derived.Test.YtkgeojjgcffebaaReachedF1
set_option linter.unusedVariables false
set_option linter.unusedSimpArgs false
set_option maxRecDepth 20000
namespace Go.Eng
open Go.Proofs
/-! loop.example/g00249/spec.Closure -/
noncomputable def spec_Closure_L4_K (l0 : List GWord) (l1 : List Bool) (l2 : List GWord) (n4 : Int) (n5 : Int) (n6 : Int) (n7 : Int) (n8 : Int) (l3 : List GWord) (n9 : Int) {ρ : Type} (A : List GWord × Int → Option ρ) (X : List GWord → Option ρ) (R : Unit → Option ρ) : Option ρ :=
  Option.bind (spec_l1Min n5 24) fun r5 =>
  cond (decide (n9 < r5))
    (cond (decide (0 ≤ n9)) (cond (decide (n9 < (((l0.length : Nat) : Int)))) (cond ((List.getD l0 (n9.toNat) (default)).is == true)
      (Option.bind (spec_l21Has l3 (List.getD l0 (n9.toNat) (default)).key) fun r6 =>
      cond (!r6)
        (cond (decide ((((l3.length) + 1) * 48) ≤ 140737488355328)) (A (l3 ++ [List.getD l0 (n9.toNat) (default)], w64 (n9 + 1))) none)
        (A (l3, w64 (n9 + 1))))
      (A (l3, w64 (n9 + 1)))) none) none)
    (X l3)
noncomputable def spec_Closure_L4_step (l0 : List GWord) (l1 : List Bool) (l2 : List GWord) (n4 : Int) (n5 : Int) (n6 : Int) (n7 : Int) (n8 : Int) (s : List GWord × Int) : Option (Rnd (List GWord × Int) (List GWord) (Unit)) := spec_Closure_L4_K l0 l1 l2 n4 n5 n6 n7 n8 (s.1) (s.2) (fun s => some (.again s)) (fun t => some (.exit t)) (fun k => some (.ret k))
theorem spec_Closure_L4_bind (l0 : List GWord) (l1 : List Bool) (l2 : List GWord) (n4 : Int) (n5 : Int) (n6 : Int) (n7 : Int) (n8 : Int) (s : List GWord × Int) {ρ : Type} (A : List GWord × Int → Option ρ) (X : List GWord → Option ρ) (R : Unit → Option ρ) : spec_Closure_L4_K l0 l1 l2 n4 n5 n6 n7 n8 (s.1) (s.2) A X R = (spec_Closure_L4_step l0 l1 l2 n4 n5 n6 n7 n8 s).bind (rndE A X R) := by
  simp only [spec_Closure_L4_step, spec_Closure_L4_K, Option.bind_assoc, Option.bind_some, Option.bind_none, cond_bind, sumK_bind, rndE_again, rndE_exit, rndE_ret]
def spec_Closure_L4_st (p : List GWord × List Bool × List GWord × Int × Int × Int × Int × Int) (s : List GWord × Int) : List V × Heap Row := ([.c (.ptr 3 0), .c (.sl 4 0), .c (.int .i64 (p.2.2.2.2.2.2.2)), .c (.ptr 5 0), .c (.int .i64 (s.2))], [⟨.row ⟨.word, p.1⟩, 0, 1⟩, ⟨.row ⟨.bool, p.2.1⟩, 0, 1⟩, ⟨.row ⟨.word, p.2.2.1⟩, 0, 1⟩, ⟨.box [.sl 0 0, .sl 1 0], 0, 2⟩, ⟨.row ⟨.word, s.1⟩, 0, 2⟩, ⟨.box [.int .i64 (p.2.2.2.1), .int .i64 (p.2.2.2.2.1), .int .i64 (p.2.2.2.2.2.1), .int .i64 (p.2.2.2.2.2.2.1)], 0, 2⟩])
def spec_Closure_L4_so (p : List GWord × List Bool × List GWord × Int × Int × Int × Int × Int) (t : List GWord) : List V × Heap Row := ([.c (.ptr 3 0), .c (.sl 4 0), .c (.int .i64 (p.2.2.2.2.2.2.2))], [⟨.row ⟨.word, p.1⟩, 0, 1⟩, ⟨.row ⟨.bool, p.2.1⟩, 0, 1⟩, ⟨.row ⟨.word, p.2.2.1⟩, 0, 1⟩, ⟨.box [.sl 0 0, .sl 1 0], 0, 2⟩, ⟨.row ⟨.word, t⟩, 0, 2⟩])
def spec_Closure_L4_D : List V → Heap Row → Option ((List GWord × List Bool × List GWord × Int × Int × Int × Int × Int) × (List GWord × Int))
  | [.c (.ptr 3 0), .c (.sl 4 0), .c (.int .i64 v1), .c (.ptr 5 0), .c (.int .i64 v2)], [⟨.row ⟨.word, v3⟩, 0, 1⟩, ⟨.row ⟨.bool, v4⟩, 0, 1⟩, ⟨.row ⟨.word, v5⟩, 0, 1⟩, ⟨.box [.sl 0 0, .sl 1 0], 0, 2⟩, ⟨.row ⟨.word, v6⟩, 0, 2⟩, ⟨.box [.int .i64 v7, .int .i64 v8, .int .i64 v9, .int .i64 v10], 0, 2⟩] => some ((v3, v4, v5, v7, v8, v9, v10, v1), (v6, v2))
  | _, _ => none
theorem spec_Closure_L4_D_ok (vs : List V) (L : Heap Row) (p : List GWord × List Bool × List GWord × Int × Int × Int × Int × Int) (s : List GWord × Int) (h : spec_Closure_L4_D vs L = some (p, s)) : spec_Closure_L4_st p s = (vs, L) := by
  unfold spec_Closure_L4_D at h
  split at h
  · simp at h; obtain ⟨rfl, rfl⟩ := h; rfl
  · simp at h
noncomputable def spec_Closure_L4_H : LoopH Row := loopX [2, 5, 7, 8, 9] [2, 5, 7] spec_Closure_L4_D (fun p => spec_Closure_L4_step (p.1) (p.2.1) (p.2.2.1) (p.2.2.2.1) (p.2.2.2.2.1) (p.2.2.2.2.2.1) (p.2.2.2.2.2.2.1) (p.2.2.2.2.2.2.2)) spec_Closure_L4_so
noncomputable def spec_Closure_L0_K (l0 : List GWord) (l1 : List Bool) (l2 : List GWord) (l3 : List GWord) (n4 : Int) {ρ : Type} (A : List GWord × Int → Option ρ) (X : List GWord → Option ρ) (R : Unit → Option ρ) : Option ρ :=
  cond (decide (n4 < (((l2.length : Nat) : Int))))
    (cond (decide (0 ≤ n4)) (cond (decide (n4 < (((l2.length : Nat) : Int)))) (Option.bind (spec_WordOk (List.getD l2 (n4.toNat) (default))) fun r2 =>
    cond (r2 == true)
      (cond (decide (0 ≤ n4)) (cond (decide (n4 < (((l2.length : Nat) : Int)))) (cond ((List.getD l2 (n4.toNat) (default)).is == true)
        (cond (decide (0 ≤ n4)) (cond (decide (n4 < (((l2.length : Nat) : Int)))) (Option.bind (spec_l21Has l3 (List.getD l2 (n4.toNat) (default)).key) fun r3 =>
        cond (!r3)
          (cond (decide (0 ≤ n4)) (cond (decide (n4 < (((l2.length : Nat) : Int)))) (cond (decide ((((l3.length) + 1) * 48) ≤ 140737488355328)) (A (l3 ++ [List.getD l2 (n4.toNat) (default)], w64 (n4 + 1))) none) none) none)
          (A (l3, w64 (n4 + 1)))) none) none)
        (A (l3, w64 (n4 + 1)))) none) none)
      (A (l3, w64 (n4 + 1)))) none) none)
    (X l3)
noncomputable def spec_Closure_L0_step (l0 : List GWord) (l1 : List Bool) (l2 : List GWord) (s : List GWord × Int) : Option (Rnd (List GWord × Int) (List GWord) (Unit)) := spec_Closure_L0_K l0 l1 l2 (s.1) (s.2) (fun s => some (.again s)) (fun t => some (.exit t)) (fun k => some (.ret k))
theorem spec_Closure_L0_bind (l0 : List GWord) (l1 : List Bool) (l2 : List GWord) (s : List GWord × Int) {ρ : Type} (A : List GWord × Int → Option ρ) (X : List GWord → Option ρ) (R : Unit → Option ρ) : spec_Closure_L0_K l0 l1 l2 (s.1) (s.2) A X R = (spec_Closure_L0_step l0 l1 l2 s).bind (rndE A X R) := by
  simp only [spec_Closure_L0_step, spec_Closure_L0_K, Option.bind_assoc, Option.bind_some, Option.bind_none, cond_bind, sumK_bind, rndE_again, rndE_exit, rndE_ret]
def spec_Closure_L0_st (p : List GWord × List Bool × List GWord) (s : List GWord × Int) : List V × Heap Row := ([.c (.sl 2 0), .c (.ptr 3 0), .c (.sl 4 0), .c (.int .i64 (s.2))], [⟨.row ⟨.word, p.1⟩, 0, 1⟩, ⟨.row ⟨.bool, p.2.1⟩, 0, 1⟩, ⟨.row ⟨.word, p.2.2⟩, 0, 1⟩, ⟨.box [.sl 0 0, .sl 1 0], 0, 2⟩, ⟨.row ⟨.word, s.1⟩, 0, 2⟩])
def spec_Closure_L0_so (p : List GWord × List Bool × List GWord) (t : List GWord) : List V × Heap Row := ([.c (.ptr 3 0), .c (.sl 4 0)], [⟨.row ⟨.word, p.1⟩, 0, 1⟩, ⟨.row ⟨.bool, p.2.1⟩, 0, 1⟩, ⟨.row ⟨.word, p.2.2⟩, 0, 1⟩, ⟨.box [.sl 0 0, .sl 1 0], 0, 2⟩, ⟨.row ⟨.word, t⟩, 0, 2⟩])
def spec_Closure_L0_D : List V → Heap Row → Option ((List GWord × List Bool × List GWord) × (List GWord × Int))
  | [.c (.sl 2 0), .c (.ptr 3 0), .c (.sl 4 0), .c (.int .i64 v1)], [⟨.row ⟨.word, v2⟩, 0, 1⟩, ⟨.row ⟨.bool, v3⟩, 0, 1⟩, ⟨.row ⟨.word, v4⟩, 0, 1⟩, ⟨.box [.sl 0 0, .sl 1 0], 0, 2⟩, ⟨.row ⟨.word, v5⟩, 0, 2⟩] => some ((v2, v3, v4), (v5, v1))
  | _, _ => none
theorem spec_Closure_L0_D_ok (vs : List V) (L : Heap Row) (p : List GWord × List Bool × List GWord) (s : List GWord × Int) (h : spec_Closure_L0_D vs L = some (p, s)) : spec_Closure_L0_st p s = (vs, L) := by
  unfold spec_Closure_L0_D at h
  split at h
  · simp at h; obtain ⟨rfl, rfl⟩ := h; rfl
  · simp at h
noncomputable def spec_Closure_L0_H : LoopH Row := loopX [1, 2, 5, 6] [2, 5] spec_Closure_L0_D (fun p => spec_Closure_L0_step (p.1) (p.2.1) (p.2.2)) spec_Closure_L0_so
noncomputable def spec_Closure_L2_K (l0 : List GWord) (l1 : List Bool) (l2 : List GWord) (l3 : List GWord) (n4 : Int) {ρ : Type} (A : List GWord × Int → Option ρ) (X : List GWord → Option ρ) (R : Unit → Option ρ) : Option ρ :=
  cond (decide (n4 < (((l3.length : Nat) : Int))))
    (cond (decide (0 ≤ n4)) (cond (decide (n4 < (((l3.length : Nat) : Int)))) (cond (((bits .and .i64 (List.getD l3 (n4.toNat) (default)).key.perms 1) == 0) == false)
      (cond ((bits .and .i64 (List.getD l3 (n4.toNat) (default)).key.perms 8) == 0)
        (A (l3, w64 (n4 + 1)))
        (Option.bind (runX (spec_Closure_L4_step l0 l1 l2 (List.getD l3 (n4.toNat) (default)).key.base (List.getD l3 (n4.toNat) (default)).key.top (List.getD l3 (n4.toNat) (default)).key.perms (List.getD l3 (n4.toNat) (default)).key.seal_ n4) (l3, (List.getD l3 (n4.toNat) (default)).key.base)) fun t7 =>
        A (t7, w64 (n4 + 1))))
      (A (l3, w64 (n4 + 1)))) none) none)
    (X l3)
noncomputable def spec_Closure_L2_step (l0 : List GWord) (l1 : List Bool) (l2 : List GWord) (s : List GWord × Int) : Option (Rnd (List GWord × Int) (List GWord) (Unit)) := spec_Closure_L2_K l0 l1 l2 (s.1) (s.2) (fun s => some (.again s)) (fun t => some (.exit t)) (fun k => some (.ret k))
theorem spec_Closure_L2_bind (l0 : List GWord) (l1 : List Bool) (l2 : List GWord) (s : List GWord × Int) {ρ : Type} (A : List GWord × Int → Option ρ) (X : List GWord → Option ρ) (R : Unit → Option ρ) : spec_Closure_L2_K l0 l1 l2 (s.1) (s.2) A X R = (spec_Closure_L2_step l0 l1 l2 s).bind (rndE A X R) := by
  simp only [spec_Closure_L2_step, spec_Closure_L2_K, Option.bind_assoc, Option.bind_some, Option.bind_none, cond_bind, sumK_bind, rndE_again, rndE_exit, rndE_ret]
def spec_Closure_L2_st (p : List GWord × List Bool × List GWord) (s : List GWord × Int) : List V × Heap Row := ([.c (.ptr 3 0), .c (.sl 4 0), .c (.int .i64 (s.2))], [⟨.row ⟨.word, p.1⟩, 0, 1⟩, ⟨.row ⟨.bool, p.2.1⟩, 0, 1⟩, ⟨.row ⟨.word, p.2.2⟩, 0, 1⟩, ⟨.box [.sl 0 0, .sl 1 0], 0, 2⟩, ⟨.row ⟨.word, s.1⟩, 0, 2⟩])
def spec_Closure_L2_so (p : List GWord × List Bool × List GWord) (t : List GWord) : List V × Heap Row := ([.c (.sl 3 0)], [⟨.row ⟨.word, p.1⟩, 0, 1⟩, ⟨.row ⟨.bool, p.2.1⟩, 0, 1⟩, ⟨.row ⟨.word, p.2.2⟩, 0, 1⟩, ⟨.row ⟨.word, t⟩, 0, 2⟩])
def spec_Closure_L2_D : List V → Heap Row → Option ((List GWord × List Bool × List GWord) × (List GWord × Int))
  | [.c (.ptr 3 0), .c (.sl 4 0), .c (.int .i64 v1)], [⟨.row ⟨.word, v2⟩, 0, 1⟩, ⟨.row ⟨.bool, v3⟩, 0, 1⟩, ⟨.row ⟨.word, v4⟩, 0, 1⟩, ⟨.box [.sl 0 0, .sl 1 0], 0, 2⟩, ⟨.row ⟨.word, v5⟩, 0, 2⟩] => some ((v2, v3, v4), (v5, v1))
  | _, _ => none
theorem spec_Closure_L2_D_ok (vs : List V) (L : Heap Row) (p : List GWord × List Bool × List GWord) (s : List GWord × Int) (h : spec_Closure_L2_D vs L = some (p, s)) : spec_Closure_L2_st p s = (vs, L) := by
  unfold spec_Closure_L2_D at h
  split at h
  · simp at h; obtain ⟨rfl, rfl⟩ := h; rfl
  · simp at h
noncomputable def spec_Closure_L2_H : LoopH Row := loopX [2, 5, 7] [5] spec_Closure_L2_D (fun p => spec_Closure_L2_step (p.1) (p.2.1) (p.2.2)) spec_Closure_L2_so
theorem spec_Closure_L4_nf (p : List GWord × List Bool × List GWord × Int × Int × Int × Int × Int) (s : List GWord × Int) (ρ : Type) (again Kx Kr : List V → Heap Row → Option ρ) : evRound rowU (envOf 23 3 [(119, spec_l1Min_C), (117, spec_WordOk_C), (116, spec_MemoryOk_C), (118, spec_l21Has_C)] [(4, spec_Closure_L4_H), (0, spec_Closure_L0_H), (2, spec_Closure_L2_H)]) 4 spec_Closure_L4_H (loopC 23 4) again (spec_Closure_L4_st p s).1 (spec_Closure_L4_st p s).2 Kx Kr = spec_Closure_L4_K (p.1) (p.2.1) (p.2.2.1) (p.2.2.2.1) (p.2.2.2.2.1) (p.2.2.2.2.2.1) (p.2.2.2.2.2.2.1) (p.2.2.2.2.2.2.2) (s.1) (s.2) (fun s => again (spec_Closure_L4_st p s).1 (spec_Closure_L4_st p s).2) (fun t => Kx (spec_Closure_L4_so p t).1 (spec_Closure_L4_so p t).2) (fun _ => none) := by kernel_rfl
theorem spec_Closure_L4_ok (hb : LoopsOk Try.prog rowU (envOf 23 3 [(119, spec_l1Min_C), (117, spec_WordOk_C), (116, spec_MemoryOk_C), (118, spec_l21Has_C)] [(4, spec_Closure_L4_H), (0, spec_Closure_L0_H), (2, spec_Closure_L2_H)]) (loopAt (codeP 23) 4)) : LoopOk Try.prog rowU (envOf 23 3 [(119, spec_l1Min_C), (117, spec_WordOk_C), (116, spec_MemoryOk_C), (118, spec_l21Has_C)] [(4, spec_Closure_L4_H), (0, spec_Closure_L0_H), (2, spec_Closure_L2_H)]) 4 (loopAt (codeP 23) 4) spec_Closure_L4_H :=
  loopX_ok tagOk mixed envNl (envT (TabOk.cons spec_l1Min_ok (TabOk.cons spec_WordOk_ok (TabOk.cons spec_MemoryOk_ok (TabOk.cons spec_l21Has_ok TabOk.nil))))) hb spec_Closure_L4_st spec_Closure_L4_D_ok fun p s ρ A Kx Kr => (spec_Closure_L4_nf p s ρ A Kx Kr).trans (spec_Closure_L4_bind (p.1) (p.2.1) (p.2.2.1) (p.2.2.2.1) (p.2.2.2.2.1) (p.2.2.2.2.2.1) (p.2.2.2.2.2.2.1) (p.2.2.2.2.2.2.2) s _ _ _)
theorem spec_Closure_L0_nf (p : List GWord × List Bool × List GWord) (s : List GWord × Int) (ρ : Type) (again Kx Kr : List V → Heap Row → Option ρ) : evRound rowU (envOf 23 3 [(119, spec_l1Min_C), (117, spec_WordOk_C), (116, spec_MemoryOk_C), (118, spec_l21Has_C)] [(4, spec_Closure_L4_H), (0, spec_Closure_L0_H), (2, spec_Closure_L2_H)]) 0 spec_Closure_L0_H (loopC 23 0) again (spec_Closure_L0_st p s).1 (spec_Closure_L0_st p s).2 Kx Kr = spec_Closure_L0_K (p.1) (p.2.1) (p.2.2) (s.1) (s.2) (fun s => again (spec_Closure_L0_st p s).1 (spec_Closure_L0_st p s).2) (fun t => Kx (spec_Closure_L0_so p t).1 (spec_Closure_L0_so p t).2) (fun _ => none) := by kernel_rfl
theorem spec_Closure_L0_ok (hb : LoopsOk Try.prog rowU (envOf 23 3 [(119, spec_l1Min_C), (117, spec_WordOk_C), (116, spec_MemoryOk_C), (118, spec_l21Has_C)] [(4, spec_Closure_L4_H), (0, spec_Closure_L0_H), (2, spec_Closure_L2_H)]) (loopAt (codeP 23) 0)) : LoopOk Try.prog rowU (envOf 23 3 [(119, spec_l1Min_C), (117, spec_WordOk_C), (116, spec_MemoryOk_C), (118, spec_l21Has_C)] [(4, spec_Closure_L4_H), (0, spec_Closure_L0_H), (2, spec_Closure_L2_H)]) 0 (loopAt (codeP 23) 0) spec_Closure_L0_H :=
  loopX_ok tagOk mixed envNl (envT (TabOk.cons spec_l1Min_ok (TabOk.cons spec_WordOk_ok (TabOk.cons spec_MemoryOk_ok (TabOk.cons spec_l21Has_ok TabOk.nil))))) hb spec_Closure_L0_st spec_Closure_L0_D_ok fun p s ρ A Kx Kr => (spec_Closure_L0_nf p s ρ A Kx Kr).trans (spec_Closure_L0_bind (p.1) (p.2.1) (p.2.2) s _ _ _)
theorem spec_Closure_L2_nf (p : List GWord × List Bool × List GWord) (s : List GWord × Int) (ρ : Type) (again Kx Kr : List V → Heap Row → Option ρ) : evRound rowU (envOf 23 3 [(119, spec_l1Min_C), (117, spec_WordOk_C), (116, spec_MemoryOk_C), (118, spec_l21Has_C)] [(4, spec_Closure_L4_H), (0, spec_Closure_L0_H), (2, spec_Closure_L2_H)]) 2 spec_Closure_L2_H (loopC 23 2) again (spec_Closure_L2_st p s).1 (spec_Closure_L2_st p s).2 Kx Kr = spec_Closure_L2_K (p.1) (p.2.1) (p.2.2) (s.1) (s.2) (fun s => again (spec_Closure_L2_st p s).1 (spec_Closure_L2_st p s).2) (fun t => Kx (spec_Closure_L2_so p t).1 (spec_Closure_L2_so p t).2) (fun _ => none) := by kernel_rfl
theorem spec_Closure_L2_ok (hb : LoopsOk Try.prog rowU (envOf 23 3 [(119, spec_l1Min_C), (117, spec_WordOk_C), (116, spec_MemoryOk_C), (118, spec_l21Has_C)] [(4, spec_Closure_L4_H), (0, spec_Closure_L0_H), (2, spec_Closure_L2_H)]) (loopAt (codeP 23) 2)) : LoopOk Try.prog rowU (envOf 23 3 [(119, spec_l1Min_C), (117, spec_WordOk_C), (116, spec_MemoryOk_C), (118, spec_l21Has_C)] [(4, spec_Closure_L4_H), (0, spec_Closure_L0_H), (2, spec_Closure_L2_H)]) 2 (loopAt (codeP 23) 2) spec_Closure_L2_H :=
  loopX_ok tagOk mixed envNl (envT (TabOk.cons spec_l1Min_ok (TabOk.cons spec_WordOk_ok (TabOk.cons spec_MemoryOk_ok (TabOk.cons spec_l21Has_ok TabOk.nil))))) hb spec_Closure_L2_st spec_Closure_L2_D_ok fun p s ρ A Kx Kr => (spec_Closure_L2_nf p s ρ A Kx Kr).trans (spec_Closure_L2_bind (p.1) (p.2.1) (p.2.2) s _ _ _)
noncomputable def spec_Closure_K (x0 : GMemory) (x1 : List GWord) {ρ : Type} (K : List GWord → Option ρ) : Option ρ :=
  Option.bind (spec_MemoryOk x0) fun r1 =>
  cond (!r1)
    (K [])
    (Option.bind (runX (spec_Closure_L0_step x0.words x0.gone x1) ([], 0)) fun t4 =>
    Option.bind (runX (spec_Closure_L2_step x0.words x0.gone x1) (t4, 0)) fun t8 =>
    K t8)
noncomputable def spec_Closure (x0 : GMemory) (x1 : List GWord) : Option (List GWord) := spec_Closure_K x0 x1 some
theorem spec_Closure_bind (x0 : GMemory) (x1 : List GWord) {ρ : Type} (K : List GWord → Option ρ) : spec_Closure_K x0 x1 K = (spec_Closure x0 x1).bind K := by
  simp only [spec_Closure, spec_Closure_K, Option.bind_assoc, Option.bind_some, Option.bind_none, cond_bind, sumK_bind]
noncomputable def spec_Closure_E : Env Row := envN false 23 3 [(119, spec_l1Min_C), (117, spec_WordOk_C), (116, spec_MemoryOk_C), (118, spec_l21Has_C)] [(4, spec_Closure_L4_H), (0, spec_Closure_L0_H), (2, spec_Closure_L2_H)]
theorem spec_Closure_nf (x0 : GMemory) (x1 : List GWord) (ρ : Type) (K : V → Heap Row → Option ρ) : evBody rowU spec_Closure_E (bodyC 23) [.a [.sl 0 0, .sl 1 0], .c (.sl 2 0)] [⟨.row ⟨.word, x0.words⟩, 0, 1⟩, ⟨.row ⟨.bool, x0.gone⟩, 0, 1⟩, ⟨.row ⟨.word, x1⟩, 0, 1⟩] K = spec_Closure_K x0 x1 (fun r => K (.c (.sl 3 0)) [⟨.row ⟨.word, x0.words⟩, 0, 1⟩, ⟨.row ⟨.bool, x0.gone⟩, 0, 1⟩, ⟨.row ⟨.word, x1⟩, 0, 1⟩, ⟨.row ⟨.word, r⟩, 0, 2⟩]) := by kernel_rfl
def spec_Closure_D : List V → Heap Row → Option (GMemory × List GWord)
  | [.a (.sl 0 0 :: .sl 1 0 :: []), .c (.sl 2 0)], [⟨.row ⟨.word, v1⟩, 0, 1⟩, ⟨.row ⟨.bool, v2⟩, 0, 1⟩, ⟨.row ⟨.word, v3⟩, 0, 1⟩] => some (⟨v1, v2⟩, v3)
  | _, _ => none
theorem spec_Closure_D_ok {vs : List V} {W : Heap Row} {a : GMemory × List GWord} (h : spec_Closure_D vs W = some a) : vs = [.a [.sl 0 0, .sl 1 0], .c (.sl 2 0)] ∧ W = [⟨.row ⟨.word, (a.1).words⟩, 0, 1⟩, ⟨.row ⟨.bool, (a.1).gone⟩, 0, 1⟩, ⟨.row ⟨.word, a.2⟩, 0, 1⟩] := by
  unfold spec_Closure_D at h
  split at h
  · simp at h; subst h; exact ⟨rfl, rfl⟩
  · simp at h
noncomputable def spec_Closure_C : Callee Row := ⟨[(false, 0), (false, 0), (false, 0)], fun _ vs W K => (spec_Closure_D vs W).bind fun a => (spec_Closure a.1 a.2).bind fun r => K (.c (.sl 3 0)) [⟨.row ⟨.word, (a.1).words⟩, 0, 1⟩, ⟨.row ⟨.bool, (a.1).gone⟩, 0, 1⟩, ⟨.row ⟨.word, a.2⟩, 0, 1⟩, ⟨.row ⟨.word, r⟩, 0, 2⟩]⟩
theorem spec_Closure_ok : CalleeOk Try.prog rowU 23 spec_Closure_C := by
  refine calleeP (nl := false) (m0 := 3) (T := [(119, spec_l1Min_C), (117, spec_WordOk_C), (116, spec_MemoryOk_C), (118, spec_l21Has_C)]) (H := [(4, spec_Closure_L4_H), (0, spec_Closure_L0_H), (2, spec_Closure_L2_H)]) (TabOk.cons spec_l1Min_ok (TabOk.cons spec_WordOk_ok (TabOk.cons spec_MemoryOk_ok (TabOk.cons spec_l21Has_ok TabOk.nil)))) (by kernel_rfl) (by kernel_rfl) (fun p hp hb => by
    simp only [List.mem_cons, List.not_mem_nil, or_false] at hp
    rcases hp with rfl | rfl | rfl
    · exact spec_Closure_L4_ok hb
    · exact spec_Closure_L0_ok hb
    · exact spec_Closure_L2_ok hb) fun ρ vs W K r h => ?_
  obtain ⟨a, ha, h1⟩ := Option.bind_eq_some_iff.1 h
  clear h
  obtain ⟨rfl, rfl⟩ := spec_Closure_D_ok ha
  obtain ⟨q, hq, h2⟩ := Option.bind_eq_some_iff.1 h1
  exact ⟨_, _, h2, (spec_Closure_nf (a.1) (a.2) _ _).trans ((spec_Closure_bind (a.1) (a.2) _).trans (by rw [hq]; rfl))⟩
/-! loop.example/g00249/laws.sameWords -/
noncomputable def laws_sameWords_L0_K (l0 : List GWord) (l1 : List GWord) (n2 : Int) {ρ : Type} (A : Int → Option ρ) (X : Unit → Option ρ) (R : Unit → Option ρ) : Option ρ :=
  cond (decide (n2 < (((l0.length : Nat) : Int))))
    (cond (decide (0 ≤ n2)) (cond (decide (n2 < (((l0.length : Nat) : Int)))) (cond (decide (0 ≤ n2)) (cond (decide (n2 < (((l1.length : Nat) : Int)))) (cond (!(((List.getD l0 (n2.toNat) (default)).n == (List.getD l1 (n2.toNat) (default)).n) && (((List.getD l0 (n2.toNat) (default)).is == (List.getD l1 (n2.toNat) (default)).is) && (((List.getD l0 (n2.toNat) (default)).key.base == (List.getD l1 (n2.toNat) (default)).key.base) && (((List.getD l0 (n2.toNat) (default)).key.top == (List.getD l1 (n2.toNat) (default)).key.top) && (((List.getD l0 (n2.toNat) (default)).key.perms == (List.getD l1 (n2.toNat) (default)).key.perms) && (((List.getD l0 (n2.toNat) (default)).key.seal_ == (List.getD l1 (n2.toNat) (default)).key.seal_) && true)))))))
      (R ())
      (A (w64 (n2 + 1)))) none) none) none) none)
    (X ())
noncomputable def laws_sameWords_L0_step (l0 : List GWord) (l1 : List GWord) (s : Int) : Option (Rnd (Int) (Unit) (Unit)) := laws_sameWords_L0_K l0 l1 s (fun s => some (.again s)) (fun t => some (.exit t)) (fun k => some (.ret k))
theorem laws_sameWords_L0_bind (l0 : List GWord) (l1 : List GWord) (s : Int) {ρ : Type} (A : Int → Option ρ) (X : Unit → Option ρ) (R : Unit → Option ρ) : laws_sameWords_L0_K l0 l1 s A X R = (laws_sameWords_L0_step l0 l1 s).bind (rndE A X R) := by
  simp only [laws_sameWords_L0_step, laws_sameWords_L0_K, Option.bind_assoc, Option.bind_some, Option.bind_none, cond_bind, sumK_bind, rndE_again, rndE_exit, rndE_ret]
def laws_sameWords_L0_st (p : List GWord × List GWord) (s : Int) : List V × Heap Row := ([.c (.sl 0 0), .c (.sl 1 0), .c (.int .i64 (s))], [⟨.row ⟨.word, p.1⟩, 0, 1⟩, ⟨.row ⟨.word, p.2⟩, 0, 1⟩])
def laws_sameWords_L0_so (p : List GWord × List GWord) (t : Unit) : List V × Heap Row := ([], [⟨.row ⟨.word, p.1⟩, 0, 1⟩, ⟨.row ⟨.word, p.2⟩, 0, 1⟩])
def laws_sameWords_L0_sr (p : List GWord × List GWord) (k : Unit) : List V × Heap Row := ([.c (.bool false)], [⟨.row ⟨.word, p.1⟩, 0, 1⟩, ⟨.row ⟨.word, p.2⟩, 0, 1⟩])
def laws_sameWords_L0_D : List V → Heap Row → Option ((List GWord × List GWord) × (Int))
  | [.c (.sl 0 0), .c (.sl 1 0), .c (.int .i64 v1)], [⟨.row ⟨.word, v2⟩, 0, 1⟩, ⟨.row ⟨.word, v3⟩, 0, 1⟩] => some ((v2, v3), (v1))
  | _, _ => none
theorem laws_sameWords_L0_D_ok (vs : List V) (L : Heap Row) (p : List GWord × List GWord) (s : Int) (h : laws_sameWords_L0_D vs L = some (p, s)) : laws_sameWords_L0_st p s = (vs, L) := by
  unfold laws_sameWords_L0_D at h
  split at h
  · simp at h; obtain ⟨rfl, rfl⟩ := h; rfl
  · simp at h
noncomputable def laws_sameWords_L0_H : LoopH Row := loopR [0, 1, 5] [] laws_sameWords_L0_D (fun p => laws_sameWords_L0_step (p.1) (p.2)) laws_sameWords_L0_so laws_sameWords_L0_sr
theorem laws_sameWords_L0_nf (p : List GWord × List GWord) (s : Int) (ρ : Type) (again Kx Kr : List V → Heap Row → Option ρ) : evRound rowU (envOf 22 2 [] [(0, laws_sameWords_L0_H)]) 0 laws_sameWords_L0_H (loopC 22 0) again (laws_sameWords_L0_st p s).1 (laws_sameWords_L0_st p s).2 Kx Kr = laws_sameWords_L0_K (p.1) (p.2) s (fun s => again (laws_sameWords_L0_st p s).1 (laws_sameWords_L0_st p s).2) (fun t => Kx (laws_sameWords_L0_so p t).1 (laws_sameWords_L0_so p t).2) (fun k => Kr (laws_sameWords_L0_sr p k).1 (laws_sameWords_L0_sr p k).2) := by kernel_rfl
theorem laws_sameWords_L0_ok (hb : LoopsOk Try.prog rowU (envOf 22 2 [] [(0, laws_sameWords_L0_H)]) (loopAt (codeP 22) 0)) : LoopOk Try.prog rowU (envOf 22 2 [] [(0, laws_sameWords_L0_H)]) 0 (loopAt (codeP 22) 0) laws_sameWords_L0_H :=
  loopR_ok tagOk mixed envNl (envT TabOk.nil) hb laws_sameWords_L0_st laws_sameWords_L0_D_ok fun p s ρ A Kx Kr => (laws_sameWords_L0_nf p s ρ A Kx Kr).trans (laws_sameWords_L0_bind (p.1) (p.2) s _ _ _)
noncomputable def laws_sameWords_K (x0 : List GWord) (x1 : List GWord) {ρ : Type} (K : Bool → Option ρ) : Option ρ :=
  cond ((((x0.length : Nat) : Int)) != (((x1.length : Nat) : Int)))
    (K false)
    (Option.bind (runL (laws_sameWords_L0_step x0 x1) 0) fun ot1 => sumK ot1
      (fun t1 => K true)
      (fun k2 => K false))
noncomputable def laws_sameWords (x0 : List GWord) (x1 : List GWord) : Option (Bool) := laws_sameWords_K x0 x1 some
theorem laws_sameWords_bind (x0 : List GWord) (x1 : List GWord) {ρ : Type} (K : Bool → Option ρ) : laws_sameWords_K x0 x1 K = (laws_sameWords x0 x1).bind K := by
  simp only [laws_sameWords, laws_sameWords_K, Option.bind_assoc, Option.bind_some, Option.bind_none, cond_bind, sumK_bind]
noncomputable def laws_sameWords_E : Env Row := envN false 22 2 [] [(0, laws_sameWords_L0_H)]
theorem laws_sameWords_nf (x0 : List GWord) (x1 : List GWord) (ρ : Type) (K : V → Heap Row → Option ρ) : evBody rowU laws_sameWords_E (bodyC 22) [.c (.sl 0 0), .c (.sl 1 0)] [⟨.row ⟨.word, x0⟩, 0, 1⟩, ⟨.row ⟨.word, x1⟩, 0, 1⟩] K = laws_sameWords_K x0 x1 (fun r => K (.c (.bool r)) [⟨.row ⟨.word, x0⟩, 0, 1⟩, ⟨.row ⟨.word, x1⟩, 0, 1⟩]) := by kernel_rfl
def laws_sameWords_D : List V → Heap Row → Option (List GWord × List GWord)
  | [.c (.sl 0 0), .c (.sl 1 0)], [⟨.row ⟨.word, v1⟩, 0, 1⟩, ⟨.row ⟨.word, v2⟩, 0, 1⟩] => some (v1, v2)
  | _, _ => none
theorem laws_sameWords_D_ok {vs : List V} {W : Heap Row} {a : List GWord × List GWord} (h : laws_sameWords_D vs W = some a) : vs = [.c (.sl 0 0), .c (.sl 1 0)] ∧ W = [⟨.row ⟨.word, a.1⟩, 0, 1⟩, ⟨.row ⟨.word, a.2⟩, 0, 1⟩] := by
  unfold laws_sameWords_D at h
  split at h
  · simp at h; subst h; exact ⟨rfl, rfl⟩
  · simp at h
noncomputable def laws_sameWords_C : Callee Row := ⟨[(false, 0), (false, 0)], fun _ vs W K => (laws_sameWords_D vs W).bind fun a => (laws_sameWords a.1 a.2).bind fun r => K (.c (.bool r)) [⟨.row ⟨.word, a.1⟩, 0, 1⟩, ⟨.row ⟨.word, a.2⟩, 0, 1⟩]⟩
theorem laws_sameWords_ok : CalleeOk Try.prog rowU 22 laws_sameWords_C := by
  refine calleeP (nl := false) (m0 := 2) (T := []) (H := [(0, laws_sameWords_L0_H)]) TabOk.nil (by kernel_rfl) (by kernel_rfl) (fun p hp hb => by
    simp only [List.mem_cons, List.not_mem_nil, or_false] at hp
    subst hp
    exact laws_sameWords_L0_ok hb) fun ρ vs W K r h => ?_
  obtain ⟨a, ha, h1⟩ := Option.bind_eq_some_iff.1 h
  clear h
  obtain ⟨rfl, rfl⟩ := laws_sameWords_D_ok ha
  obtain ⟨q, hq, h2⟩ := Option.bind_eq_some_iff.1 h1
  exact ⟨_, _, h2, (laws_sameWords_nf (a.1) (a.2) _ _).trans ((laws_sameWords_bind (a.1) (a.2) _).trans (by rw [hq]; rfl))⟩
/-! loop.example/g00249/impl.has -/
def impl_has_K (x0 : GWord) (x1 : Int) {ρ : Type} (K : Bool → Option ρ) : Option ρ :=
  cond (x0.is == true)
    (K ((bits .and .i64 x0.key.perms x1) != 0))
    (K false)
def impl_has (x0 : GWord) (x1 : Int) : Option (Bool) := impl_has_K x0 x1 some
theorem impl_has_bind (x0 : GWord) (x1 : Int) {ρ : Type} (K : Bool → Option ρ) : impl_has_K x0 x1 K = (impl_has x0 x1).bind K := by
  simp only [impl_has, impl_has_K, Option.bind_assoc, Option.bind_some, Option.bind_none, cond_bind, sumK_bind]
noncomputable def impl_has_E : Env Row := envN false 123 0 [] []
theorem impl_has_nf (x0 : GWord) (x1 : Int) (ρ : Type) (K : V → Heap Row → Option ρ) : evBody rowU impl_has_E (bodyC 123) [.a [.int .i64 x0.n, .bool x0.is, .int .i64 x0.key.base, .int .i64 x0.key.top, .int .i64 x0.key.perms, .int .i64 x0.key.seal_], .c (.int .i64 x1)] [] K = impl_has_K x0 x1 (fun r => K (.c (.bool r)) []) := by kernel_rfl
def impl_has_D : List V → Heap Row → Option (GWord × Int)
  | [.a (.int .i64 v1 :: .bool v2 :: .int .i64 v3 :: .int .i64 v4 :: .int .i64 v5 :: .int .i64 v6 :: []), .c (.int .i64 v7)], [] => some (⟨v1, v2, ⟨v3, v4, v5, v6⟩⟩, v7)
  | _, _ => none
theorem impl_has_D_ok {vs : List V} {W : Heap Row} {a : GWord × Int} (h : impl_has_D vs W = some a) : vs = [.a [.int .i64 (a.1).n, .bool (a.1).is, .int .i64 (a.1).key.base, .int .i64 (a.1).key.top, .int .i64 (a.1).key.perms, .int .i64 (a.1).key.seal_], .c (.int .i64 (a.2))] ∧ W = [] := by
  unfold impl_has_D at h
  split at h
  · simp at h; subst h; exact ⟨rfl, rfl⟩
  · simp at h
def impl_has_C : Callee Row := ⟨[], fun _ vs W K => (impl_has_D vs W).bind fun a => (impl_has a.1 a.2).bind fun r => K (.c (.bool r)) []⟩
theorem impl_has_ok : CalleeOk Try.prog rowU 123 impl_has_C := by
  refine calleeP (nl := false) (m0 := 0) (T := []) (H := []) TabOk.nil (by kernel_rfl) (by kernel_rfl) (fun p hp => nomatch hp) fun ρ vs W K r h => ?_
  obtain ⟨a, ha, h1⟩ := Option.bind_eq_some_iff.1 h
  clear h
  obtain ⟨rfl, rfl⟩ := impl_has_D_ok ha
  obtain ⟨q, hq, h2⟩ := Option.bind_eq_some_iff.1 h1
  exact ⟨_, _, h2, (impl_has_nf (a.1) (a.2) _ _).trans ((impl_has_bind (a.1) (a.2) _).trans (by rw [hq]; rfl))⟩
/-! loop.example/g00249/impl.cellsBy -/
noncomputable def impl_cellsBy_L2_K (l0 : List GWord) (l1 : List Bool) (l2 : List GWord) (l4 : List GWord) (n5 : Int) (n6 : Int) (n8 : Int) (n9 : Int) (l3 : List Bool) (n7 : Int) {ρ : Type} (A : List Bool × Int → Option ρ) (X : List Bool → Option ρ) (R : Unit → Option ρ) : Option ρ :=
  cond (decide (n7 < n6))
    (cond (decide (0 ≤ n7)) (cond (decide (n7 < (((l3.length : Nat) : Int)))) (A (List.set l3 (n7.toNat) true, w64 (n7 + 1))) none) none)
    (X l3)
noncomputable def impl_cellsBy_L2_step (l0 : List GWord) (l1 : List Bool) (l2 : List GWord) (l4 : List GWord) (n5 : Int) (n6 : Int) (n8 : Int) (n9 : Int) (s : List Bool × Int) : Option (Rnd (List Bool × Int) (List Bool) (Unit)) := impl_cellsBy_L2_K l0 l1 l2 l4 n5 n6 n8 n9 (s.1) (s.2) (fun s => some (.again s)) (fun t => some (.exit t)) (fun k => some (.ret k))
theorem impl_cellsBy_L2_bind (l0 : List GWord) (l1 : List Bool) (l2 : List GWord) (l4 : List GWord) (n5 : Int) (n6 : Int) (n8 : Int) (n9 : Int) (s : List Bool × Int) {ρ : Type} (A : List Bool × Int → Option ρ) (X : List Bool → Option ρ) (R : Unit → Option ρ) : impl_cellsBy_L2_K l0 l1 l2 l4 n5 n6 n8 n9 (s.1) (s.2) A X R = (impl_cellsBy_L2_step l0 l1 l2 l4 n5 n6 n8 n9 s).bind (rndE A X R) := by
  simp only [impl_cellsBy_L2_step, impl_cellsBy_L2_K, Option.bind_assoc, Option.bind_some, Option.bind_none, cond_bind, sumK_bind, rndE_again, rndE_exit, rndE_ret]
def impl_cellsBy_L2_st (p : List GWord × List Bool × List GWord × List GWord × Int × Int × Int × Int) (s : List Bool × Int) : List V × Heap Row := ([.c (.int .i64 (p.2.2.2.2.1)), .c (.sl 3 0), .c (.int .i64 (p.2.2.2.2.2.1)), .c (.int .i64 (s.2)), .c (.sl 4 0), .c (.int .i64 (p.2.2.2.2.2.2.1)), .c (.int .i64 (p.2.2.2.2.2.2.2))], [⟨.row ⟨.word, p.1⟩, 0, 1⟩, ⟨.row ⟨.bool, p.2.1⟩, 0, 1⟩, ⟨.row ⟨.word, p.2.2.1⟩, 0, 1⟩, ⟨.row ⟨.bool, s.1⟩, 0, 2⟩, ⟨.row ⟨.word, p.2.2.2.1⟩, 0, 2⟩])
def impl_cellsBy_L2_so (p : List GWord × List Bool × List GWord × List GWord × Int × Int × Int × Int) (t : List Bool) : List V × Heap Row := ([.c (.int .i64 (p.2.2.2.2.1)), .c (.sl 3 0), .c (.sl 4 0), .c (.int .i64 (p.2.2.2.2.2.2.1)), .c (.int .i64 (p.2.2.2.2.2.2.2))], [⟨.row ⟨.word, p.1⟩, 0, 1⟩, ⟨.row ⟨.bool, p.2.1⟩, 0, 1⟩, ⟨.row ⟨.word, p.2.2.1⟩, 0, 1⟩, ⟨.row ⟨.bool, t⟩, 0, 2⟩, ⟨.row ⟨.word, p.2.2.2.1⟩, 0, 2⟩])
def impl_cellsBy_L2_D : List V → Heap Row → Option ((List GWord × List Bool × List GWord × List GWord × Int × Int × Int × Int) × (List Bool × Int))
  | [.c (.int .i64 v1), .c (.sl 3 0), .c (.int .i64 v2), .c (.int .i64 v3), .c (.sl 4 0), .c (.int .i64 v4), .c (.int .i64 v5)], [⟨.row ⟨.word, v6⟩, 0, 1⟩, ⟨.row ⟨.bool, v7⟩, 0, 1⟩, ⟨.row ⟨.word, v8⟩, 0, 1⟩, ⟨.row ⟨.bool, v9⟩, 0, 2⟩, ⟨.row ⟨.word, v10⟩, 0, 2⟩] => some ((v6, v7, v8, v10, v1, v2, v4, v5), (v9, v3))
  | _, _ => none
theorem impl_cellsBy_L2_D_ok (vs : List V) (L : Heap Row) (p : List GWord × List Bool × List GWord × List GWord × Int × Int × Int × Int) (s : List Bool × Int) (h : impl_cellsBy_L2_D vs L = some (p, s)) : impl_cellsBy_L2_st p s = (vs, L) := by
  unfold impl_cellsBy_L2_D at h
  split at h
  · simp at h; obtain ⟨rfl, rfl⟩ := h; rfl
  · simp at h
noncomputable def impl_cellsBy_L2_H : LoopH Row := loopX [2, 7, 11, 12, 19, 20, 21] [2, 7, 19, 20, 21] impl_cellsBy_L2_D (fun p => impl_cellsBy_L2_step (p.1) (p.2.1) (p.2.2.1) (p.2.2.2.1) (p.2.2.2.2.1) (p.2.2.2.2.2.1) (p.2.2.2.2.2.2.1) (p.2.2.2.2.2.2.2)) impl_cellsBy_L2_so
noncomputable def impl_cellsBy_L0_K (l0 : List GWord) (l1 : List Bool) (l2 : List GWord) (l4 : List GWord) (n5 : Int) (n6 : Int) (l3 : List Bool) (n7 : Int) {ρ : Type} (A : List Bool × Int → Option ρ) (X : List Bool → Option ρ) (R : Unit → Option ρ) : Option ρ :=
  cond (decide (n7 < n6))
    (cond (decide (0 ≤ n7)) (cond (decide (n7 < (((l4.length : Nat) : Int)))) (Option.bind (impl_has (List.getD l4 (n7.toNat) (default)) n5) fun r2 =>
    cond (!r2)
      (A (l3, w64 (n7 + 1)))
      (Option.bind (impl_spanned (List.getD l4 (n7.toNat) (default)).key) fun r3 =>
      Option.bind (runX (impl_cellsBy_L2_step l0 l1 l2 l4 n5 r3.2 n6 n7) (l3, r3.1)) fun t4 =>
      A (t4, w64 (n7 + 1)))) none) none)
    (X l3)
noncomputable def impl_cellsBy_L0_step (l0 : List GWord) (l1 : List Bool) (l2 : List GWord) (l4 : List GWord) (n5 : Int) (n6 : Int) (s : List Bool × Int) : Option (Rnd (List Bool × Int) (List Bool) (Unit)) := impl_cellsBy_L0_K l0 l1 l2 l4 n5 n6 (s.1) (s.2) (fun s => some (.again s)) (fun t => some (.exit t)) (fun k => some (.ret k))
theorem impl_cellsBy_L0_bind (l0 : List GWord) (l1 : List Bool) (l2 : List GWord) (l4 : List GWord) (n5 : Int) (n6 : Int) (s : List Bool × Int) {ρ : Type} (A : List Bool × Int → Option ρ) (X : List Bool → Option ρ) (R : Unit → Option ρ) : impl_cellsBy_L0_K l0 l1 l2 l4 n5 n6 (s.1) (s.2) A X R = (impl_cellsBy_L0_step l0 l1 l2 l4 n5 n6 s).bind (rndE A X R) := by
  simp only [impl_cellsBy_L0_step, impl_cellsBy_L0_K, Option.bind_assoc, Option.bind_some, Option.bind_none, cond_bind, sumK_bind, rndE_again, rndE_exit, rndE_ret]
def impl_cellsBy_L0_st (p : List GWord × List Bool × List GWord × List GWord × Int × Int) (s : List Bool × Int) : List V × Heap Row := ([.c (.int .i64 (p.2.2.2.2.1)), .c (.sl 3 0), .c (.sl 4 0), .c (.int .i64 (p.2.2.2.2.2)), .c (.int .i64 (s.2))], [⟨.row ⟨.word, p.1⟩, 0, 1⟩, ⟨.row ⟨.bool, p.2.1⟩, 0, 1⟩, ⟨.row ⟨.word, p.2.2.1⟩, 0, 1⟩, ⟨.row ⟨.bool, s.1⟩, 0, 2⟩, ⟨.row ⟨.word, p.2.2.2.1⟩, 0, 2⟩])
def impl_cellsBy_L0_so (p : List GWord × List Bool × List GWord × List GWord × Int × Int) (t : List Bool) : List V × Heap Row := ([.c (.sl 3 0)], [⟨.row ⟨.word, p.1⟩, 0, 1⟩, ⟨.row ⟨.bool, p.2.1⟩, 0, 1⟩, ⟨.row ⟨.word, p.2.2.1⟩, 0, 1⟩, ⟨.row ⟨.bool, t⟩, 0, 2⟩])
def impl_cellsBy_L0_D : List V → Heap Row → Option ((List GWord × List Bool × List GWord × List GWord × Int × Int) × (List Bool × Int))
  | [.c (.int .i64 v1), .c (.sl 3 0), .c (.sl 4 0), .c (.int .i64 v2), .c (.int .i64 v3)], [⟨.row ⟨.word, v4⟩, 0, 1⟩, ⟨.row ⟨.bool, v5⟩, 0, 1⟩, ⟨.row ⟨.word, v6⟩, 0, 1⟩, ⟨.row ⟨.bool, v7⟩, 0, 2⟩, ⟨.row ⟨.word, v8⟩, 0, 2⟩] => some ((v4, v5, v6, v8, v1, v2), (v7, v3))
  | _, _ => none
theorem impl_cellsBy_L0_D_ok (vs : List V) (L : Heap Row) (p : List GWord × List Bool × List GWord × List GWord × Int × Int) (s : List Bool × Int) (h : impl_cellsBy_L0_D vs L = some (p, s)) : impl_cellsBy_L0_st p s = (vs, L) := by
  unfold impl_cellsBy_L0_D at h
  split at h
  · simp at h; obtain ⟨rfl, rfl⟩ := h; rfl
  · simp at h
noncomputable def impl_cellsBy_L0_H : LoopH Row := loopX [2, 7, 19, 20, 21] [7] impl_cellsBy_L0_D (fun p => impl_cellsBy_L0_step (p.1) (p.2.1) (p.2.2.1) (p.2.2.2.1) (p.2.2.2.2.1) (p.2.2.2.2.2)) impl_cellsBy_L0_so
noncomputable def impl_cellsBy_L4_K (l0 : List GWord) (l1 : List Bool) (l2 : List GWord) (l4 : List Bool) (n5 : Int) (l3 : List Int) (n6 : Int) {ρ : Type} (A : List Int × Int → Option ρ) (X : List Int → Option ρ) (R : Unit → Option ρ) : Option ρ :=
  cond (decide (n6 < n5))
    (cond (decide (0 ≤ n6)) (cond (decide (n6 < (((l4.length : Nat) : Int)))) (cond (List.getD l4 (n6.toNat) false)
      (cond (decide ((((l3.length) + 1) * 8) ≤ 140737488355328)) (A (l3 ++ [n6], w64 (n6 + 1))) none)
      (A (l3, w64 (n6 + 1)))) none) none)
    (X l3)
noncomputable def impl_cellsBy_L4_step (l0 : List GWord) (l1 : List Bool) (l2 : List GWord) (l4 : List Bool) (n5 : Int) (s : List Int × Int) : Option (Rnd (List Int × Int) (List Int) (Unit)) := impl_cellsBy_L4_K l0 l1 l2 l4 n5 (s.1) (s.2) (fun s => some (.again s)) (fun t => some (.exit t)) (fun k => some (.ret k))
theorem impl_cellsBy_L4_bind (l0 : List GWord) (l1 : List Bool) (l2 : List GWord) (l4 : List Bool) (n5 : Int) (s : List Int × Int) {ρ : Type} (A : List Int × Int → Option ρ) (X : List Int → Option ρ) (R : Unit → Option ρ) : impl_cellsBy_L4_K l0 l1 l2 l4 n5 (s.1) (s.2) A X R = (impl_cellsBy_L4_step l0 l1 l2 l4 n5 s).bind (rndE A X R) := by
  simp only [impl_cellsBy_L4_step, impl_cellsBy_L4_K, Option.bind_assoc, Option.bind_some, Option.bind_none, cond_bind, sumK_bind, rndE_again, rndE_exit, rndE_ret]
def impl_cellsBy_L4_st (p : List GWord × List Bool × List GWord × List Bool × Int) (s : List Int × Int) : List V × Heap Row := ([.c (.sl 3 0), .c (.sl 4 0), .c (.int .i64 (p.2.2.2.2)), .c (.int .i64 (s.2))], [⟨.row ⟨.word, p.1⟩, 0, 1⟩, ⟨.row ⟨.bool, p.2.1⟩, 0, 1⟩, ⟨.row ⟨.word, p.2.2.1⟩, 0, 1⟩, ⟨.row ⟨.int, s.1⟩, 0, 2⟩, ⟨.row ⟨.bool, p.2.2.2.1⟩, 0, 2⟩])
def impl_cellsBy_L4_so (p : List GWord × List Bool × List GWord × List Bool × Int) (t : List Int) : List V × Heap Row := ([.c (.sl 3 0)], [⟨.row ⟨.word, p.1⟩, 0, 1⟩, ⟨.row ⟨.bool, p.2.1⟩, 0, 1⟩, ⟨.row ⟨.word, p.2.2.1⟩, 0, 1⟩, ⟨.row ⟨.int, t⟩, 0, 2⟩])
def impl_cellsBy_L4_D : List V → Heap Row → Option ((List GWord × List Bool × List GWord × List Bool × Int) × (List Int × Int))
  | [.c (.sl 3 0), .c (.sl 4 0), .c (.int .i64 v1), .c (.int .i64 v2)], [⟨.row ⟨.word, v3⟩, 0, 1⟩, ⟨.row ⟨.bool, v4⟩, 0, 1⟩, ⟨.row ⟨.word, v5⟩, 0, 1⟩, ⟨.row ⟨.int, v6⟩, 0, 2⟩, ⟨.row ⟨.bool, v7⟩, 0, 2⟩] => some ((v3, v4, v5, v7, v1), (v6, v2))
  | _, _ => none
theorem impl_cellsBy_L4_D_ok (vs : List V) (L : Heap Row) (p : List GWord × List Bool × List GWord × List Bool × Int) (s : List Int × Int) (h : impl_cellsBy_L4_D vs L = some (p, s)) : impl_cellsBy_L4_st p s = (vs, L) := by
  unfold impl_cellsBy_L4_D at h
  split at h
  · simp at h; obtain ⟨rfl, rfl⟩ := h; rfl
  · simp at h
noncomputable def impl_cellsBy_L4_H : LoopH Row := loopX [13, 46, 47, 48] [13] impl_cellsBy_L4_D (fun p => impl_cellsBy_L4_step (p.1) (p.2.1) (p.2.2.1) (p.2.2.2.1) (p.2.2.2.2)) impl_cellsBy_L4_so
theorem impl_cellsBy_L2_nf (p : List GWord × List Bool × List GWord × List GWord × Int × Int × Int × Int) (s : List Bool × Int) (ρ : Type) (again Kx Kr : List V → Heap Row → Option ρ) : evRound rowU (envOf 120 3 [(115, impl_spanned_C), (18, impl_Closure_C), (123, impl_has_C)] [(2, impl_cellsBy_L2_H), (0, impl_cellsBy_L0_H), (4, impl_cellsBy_L4_H)]) 2 impl_cellsBy_L2_H (loopC 120 2) again (impl_cellsBy_L2_st p s).1 (impl_cellsBy_L2_st p s).2 Kx Kr = impl_cellsBy_L2_K (p.1) (p.2.1) (p.2.2.1) (p.2.2.2.1) (p.2.2.2.2.1) (p.2.2.2.2.2.1) (p.2.2.2.2.2.2.1) (p.2.2.2.2.2.2.2) (s.1) (s.2) (fun s => again (impl_cellsBy_L2_st p s).1 (impl_cellsBy_L2_st p s).2) (fun t => Kx (impl_cellsBy_L2_so p t).1 (impl_cellsBy_L2_so p t).2) (fun _ => none) := by kernel_rfl
theorem impl_cellsBy_L2_ok (hb : LoopsOk Try.prog rowU (envOf 120 3 [(115, impl_spanned_C), (18, impl_Closure_C), (123, impl_has_C)] [(2, impl_cellsBy_L2_H), (0, impl_cellsBy_L0_H), (4, impl_cellsBy_L4_H)]) (loopAt (codeP 120) 2)) : LoopOk Try.prog rowU (envOf 120 3 [(115, impl_spanned_C), (18, impl_Closure_C), (123, impl_has_C)] [(2, impl_cellsBy_L2_H), (0, impl_cellsBy_L0_H), (4, impl_cellsBy_L4_H)]) 2 (loopAt (codeP 120) 2) impl_cellsBy_L2_H :=
  loopX_ok tagOk mixed envNl (envT (TabOk.cons impl_spanned_ok (TabOk.cons impl_Closure_ok (TabOk.cons impl_has_ok TabOk.nil)))) hb impl_cellsBy_L2_st impl_cellsBy_L2_D_ok fun p s ρ A Kx Kr => (impl_cellsBy_L2_nf p s ρ A Kx Kr).trans (impl_cellsBy_L2_bind (p.1) (p.2.1) (p.2.2.1) (p.2.2.2.1) (p.2.2.2.2.1) (p.2.2.2.2.2.1) (p.2.2.2.2.2.2.1) (p.2.2.2.2.2.2.2) s _ _ _)
theorem impl_cellsBy_L0_nf (p : List GWord × List Bool × List GWord × List GWord × Int × Int) (s : List Bool × Int) (ρ : Type) (again Kx Kr : List V → Heap Row → Option ρ) : evRound rowU (envOf 120 3 [(115, impl_spanned_C), (18, impl_Closure_C), (123, impl_has_C)] [(2, impl_cellsBy_L2_H), (0, impl_cellsBy_L0_H), (4, impl_cellsBy_L4_H)]) 0 impl_cellsBy_L0_H (loopC 120 0) again (impl_cellsBy_L0_st p s).1 (impl_cellsBy_L0_st p s).2 Kx Kr = impl_cellsBy_L0_K (p.1) (p.2.1) (p.2.2.1) (p.2.2.2.1) (p.2.2.2.2.1) (p.2.2.2.2.2) (s.1) (s.2) (fun s => again (impl_cellsBy_L0_st p s).1 (impl_cellsBy_L0_st p s).2) (fun t => Kx (impl_cellsBy_L0_so p t).1 (impl_cellsBy_L0_so p t).2) (fun _ => none) := by kernel_rfl
theorem impl_cellsBy_L0_ok (hb : LoopsOk Try.prog rowU (envOf 120 3 [(115, impl_spanned_C), (18, impl_Closure_C), (123, impl_has_C)] [(2, impl_cellsBy_L2_H), (0, impl_cellsBy_L0_H), (4, impl_cellsBy_L4_H)]) (loopAt (codeP 120) 0)) : LoopOk Try.prog rowU (envOf 120 3 [(115, impl_spanned_C), (18, impl_Closure_C), (123, impl_has_C)] [(2, impl_cellsBy_L2_H), (0, impl_cellsBy_L0_H), (4, impl_cellsBy_L4_H)]) 0 (loopAt (codeP 120) 0) impl_cellsBy_L0_H :=
  loopX_ok tagOk mixed envNl (envT (TabOk.cons impl_spanned_ok (TabOk.cons impl_Closure_ok (TabOk.cons impl_has_ok TabOk.nil)))) hb impl_cellsBy_L0_st impl_cellsBy_L0_D_ok fun p s ρ A Kx Kr => (impl_cellsBy_L0_nf p s ρ A Kx Kr).trans (impl_cellsBy_L0_bind (p.1) (p.2.1) (p.2.2.1) (p.2.2.2.1) (p.2.2.2.2.1) (p.2.2.2.2.2) s _ _ _)
theorem impl_cellsBy_L4_nf (p : List GWord × List Bool × List GWord × List Bool × Int) (s : List Int × Int) (ρ : Type) (again Kx Kr : List V → Heap Row → Option ρ) : evRound rowU (envOf 120 3 [(115, impl_spanned_C), (18, impl_Closure_C), (123, impl_has_C)] [(2, impl_cellsBy_L2_H), (0, impl_cellsBy_L0_H), (4, impl_cellsBy_L4_H)]) 4 impl_cellsBy_L4_H (loopC 120 4) again (impl_cellsBy_L4_st p s).1 (impl_cellsBy_L4_st p s).2 Kx Kr = impl_cellsBy_L4_K (p.1) (p.2.1) (p.2.2.1) (p.2.2.2.1) (p.2.2.2.2) (s.1) (s.2) (fun s => again (impl_cellsBy_L4_st p s).1 (impl_cellsBy_L4_st p s).2) (fun t => Kx (impl_cellsBy_L4_so p t).1 (impl_cellsBy_L4_so p t).2) (fun _ => none) := by kernel_rfl
theorem impl_cellsBy_L4_ok (hb : LoopsOk Try.prog rowU (envOf 120 3 [(115, impl_spanned_C), (18, impl_Closure_C), (123, impl_has_C)] [(2, impl_cellsBy_L2_H), (0, impl_cellsBy_L0_H), (4, impl_cellsBy_L4_H)]) (loopAt (codeP 120) 4)) : LoopOk Try.prog rowU (envOf 120 3 [(115, impl_spanned_C), (18, impl_Closure_C), (123, impl_has_C)] [(2, impl_cellsBy_L2_H), (0, impl_cellsBy_L0_H), (4, impl_cellsBy_L4_H)]) 4 (loopAt (codeP 120) 4) impl_cellsBy_L4_H :=
  loopX_ok tagOk mixed envNl (envT (TabOk.cons impl_spanned_ok (TabOk.cons impl_Closure_ok (TabOk.cons impl_has_ok TabOk.nil)))) hb impl_cellsBy_L4_st impl_cellsBy_L4_D_ok fun p s ρ A Kx Kr => (impl_cellsBy_L4_nf p s ρ A Kx Kr).trans (impl_cellsBy_L4_bind (p.1) (p.2.1) (p.2.2.1) (p.2.2.2.1) (p.2.2.2.2) s _ _ _)
noncomputable def impl_cellsBy_K (x0 : GMemory) (x1 : List GWord) (x2 : Int) {ρ : Type} (K : List Int → Option ρ) : Option ρ :=
  Option.bind (impl_Closure x0 x1) fun r1 =>
  Option.bind (runX (impl_cellsBy_L0_step x0.words x0.gone x1 r1 x2 (((r1.length : Nat) : Int))) (List.replicate 24 false, 0)) fun t5 =>
  Option.bind (runX (impl_cellsBy_L4_step x0.words x0.gone x1 t5 (((t5.length : Nat) : Int))) ([], 0)) fun t6 =>
  K t6
noncomputable def impl_cellsBy (x0 : GMemory) (x1 : List GWord) (x2 : Int) : Option (List Int) := impl_cellsBy_K x0 x1 x2 some
theorem impl_cellsBy_bind (x0 : GMemory) (x1 : List GWord) (x2 : Int) {ρ : Type} (K : List Int → Option ρ) : impl_cellsBy_K x0 x1 x2 K = (impl_cellsBy x0 x1 x2).bind K := by
  simp only [impl_cellsBy, impl_cellsBy_K, Option.bind_assoc, Option.bind_some, Option.bind_none, cond_bind, sumK_bind]
noncomputable def impl_cellsBy_E : Env Row := envN false 120 3 [(115, impl_spanned_C), (18, impl_Closure_C), (123, impl_has_C)] [(2, impl_cellsBy_L2_H), (0, impl_cellsBy_L0_H), (4, impl_cellsBy_L4_H)]
theorem impl_cellsBy_nf (x0 : GMemory) (x1 : List GWord) (x2 : Int) (ρ : Type) (K : V → Heap Row → Option ρ) : evBody rowU impl_cellsBy_E (bodyC 120) [.a [.sl 0 0, .sl 1 0], .c (.sl 2 0), .c (.int .i64 x2)] [⟨.row ⟨.word, x0.words⟩, 0, 1⟩, ⟨.row ⟨.bool, x0.gone⟩, 0, 1⟩, ⟨.row ⟨.word, x1⟩, 0, 1⟩] K = impl_cellsBy_K x0 x1 x2 (fun r => K (.c (.sl 3 0)) [⟨.row ⟨.word, x0.words⟩, 0, 1⟩, ⟨.row ⟨.bool, x0.gone⟩, 0, 1⟩, ⟨.row ⟨.word, x1⟩, 0, 1⟩, ⟨.row ⟨.int, r⟩, 0, 2⟩]) := by kernel_rfl
def impl_cellsBy_D : List V → Heap Row → Option (GMemory × List GWord × Int)
  | [.a (.sl 0 0 :: .sl 1 0 :: []), .c (.sl 2 0), .c (.int .i64 v1)], [⟨.row ⟨.word, v2⟩, 0, 1⟩, ⟨.row ⟨.bool, v3⟩, 0, 1⟩, ⟨.row ⟨.word, v4⟩, 0, 1⟩] => some (⟨v2, v3⟩, v4, v1)
  | _, _ => none
theorem impl_cellsBy_D_ok {vs : List V} {W : Heap Row} {a : GMemory × List GWord × Int} (h : impl_cellsBy_D vs W = some a) : vs = [.a [.sl 0 0, .sl 1 0], .c (.sl 2 0), .c (.int .i64 (a.2.2))] ∧ W = [⟨.row ⟨.word, (a.1).words⟩, 0, 1⟩, ⟨.row ⟨.bool, (a.1).gone⟩, 0, 1⟩, ⟨.row ⟨.word, a.2.1⟩, 0, 1⟩] := by
  unfold impl_cellsBy_D at h
  split at h
  · simp at h; subst h; exact ⟨rfl, rfl⟩
  · simp at h
noncomputable def impl_cellsBy_C : Callee Row := ⟨[(false, 0), (false, 0), (false, 0)], fun _ vs W K => (impl_cellsBy_D vs W).bind fun a => (impl_cellsBy a.1 a.2.1 a.2.2).bind fun r => K (.c (.sl 3 0)) [⟨.row ⟨.word, (a.1).words⟩, 0, 1⟩, ⟨.row ⟨.bool, (a.1).gone⟩, 0, 1⟩, ⟨.row ⟨.word, a.2.1⟩, 0, 1⟩, ⟨.row ⟨.int, r⟩, 0, 2⟩]⟩
theorem impl_cellsBy_ok : CalleeOk Try.prog rowU 120 impl_cellsBy_C := by
  refine calleeP (nl := false) (m0 := 3) (T := [(115, impl_spanned_C), (18, impl_Closure_C), (123, impl_has_C)]) (H := [(2, impl_cellsBy_L2_H), (0, impl_cellsBy_L0_H), (4, impl_cellsBy_L4_H)]) (TabOk.cons impl_spanned_ok (TabOk.cons impl_Closure_ok (TabOk.cons impl_has_ok TabOk.nil))) (by kernel_rfl) (by kernel_rfl) (fun p hp hb => by
    simp only [List.mem_cons, List.not_mem_nil, or_false] at hp
    rcases hp with rfl | rfl | rfl
    · exact impl_cellsBy_L2_ok hb
    · exact impl_cellsBy_L0_ok hb
    · exact impl_cellsBy_L4_ok hb) fun ρ vs W K r h => ?_
  obtain ⟨a, ha, h1⟩ := Option.bind_eq_some_iff.1 h
  clear h
  obtain ⟨rfl, rfl⟩ := impl_cellsBy_D_ok ha
  obtain ⟨q, hq, h2⟩ := Option.bind_eq_some_iff.1 h1
  exact ⟨_, _, h2, (impl_cellsBy_nf (a.1) (a.2.1) (a.2.2) _ _).trans ((impl_cellsBy_bind (a.1) (a.2.1) (a.2.2) _).trans (by rw [hq]; rfl))⟩
/-! loop.example/g00249/impl.LoadCells -/
noncomputable def impl_LoadCells_K (x0 : GMemory) (x1 : List GWord) {ρ : Type} (K : List Int → Option ρ) : Option ρ :=
  Option.bind (impl_cellsBy x0 x1 1) fun r1 =>
  K r1
noncomputable def impl_LoadCells (x0 : GMemory) (x1 : List GWord) : Option (List Int) := impl_LoadCells_K x0 x1 some
theorem impl_LoadCells_bind (x0 : GMemory) (x1 : List GWord) {ρ : Type} (K : List Int → Option ρ) : impl_LoadCells_K x0 x1 K = (impl_LoadCells x0 x1).bind K := by
  simp only [impl_LoadCells, impl_LoadCells_K, Option.bind_assoc, Option.bind_some, Option.bind_none, cond_bind, sumK_bind]
noncomputable def impl_LoadCells_E : Env Row := envN false 25 3 [(120, impl_cellsBy_C)] []
theorem impl_LoadCells_nf (x0 : GMemory) (x1 : List GWord) (ρ : Type) (K : V → Heap Row → Option ρ) : evBody rowU impl_LoadCells_E (bodyC 25) [.a [.sl 0 0, .sl 1 0], .c (.sl 2 0)] [⟨.row ⟨.word, x0.words⟩, 0, 1⟩, ⟨.row ⟨.bool, x0.gone⟩, 0, 1⟩, ⟨.row ⟨.word, x1⟩, 0, 1⟩] K = impl_LoadCells_K x0 x1 (fun r => K (.c (.sl 3 0)) [⟨.row ⟨.word, x0.words⟩, 0, 1⟩, ⟨.row ⟨.bool, x0.gone⟩, 0, 1⟩, ⟨.row ⟨.word, x1⟩, 0, 1⟩, ⟨.row ⟨.int, r⟩, 0, 2⟩]) := by kernel_rfl
def impl_LoadCells_D : List V → Heap Row → Option (GMemory × List GWord)
  | [.a (.sl 0 0 :: .sl 1 0 :: []), .c (.sl 2 0)], [⟨.row ⟨.word, v1⟩, 0, 1⟩, ⟨.row ⟨.bool, v2⟩, 0, 1⟩, ⟨.row ⟨.word, v3⟩, 0, 1⟩] => some (⟨v1, v2⟩, v3)
  | _, _ => none
theorem impl_LoadCells_D_ok {vs : List V} {W : Heap Row} {a : GMemory × List GWord} (h : impl_LoadCells_D vs W = some a) : vs = [.a [.sl 0 0, .sl 1 0], .c (.sl 2 0)] ∧ W = [⟨.row ⟨.word, (a.1).words⟩, 0, 1⟩, ⟨.row ⟨.bool, (a.1).gone⟩, 0, 1⟩, ⟨.row ⟨.word, a.2⟩, 0, 1⟩] := by
  unfold impl_LoadCells_D at h
  split at h
  · simp at h; subst h; exact ⟨rfl, rfl⟩
  · simp at h
noncomputable def impl_LoadCells_C : Callee Row := ⟨[(false, 0), (false, 0), (false, 0)], fun _ vs W K => (impl_LoadCells_D vs W).bind fun a => (impl_LoadCells a.1 a.2).bind fun r => K (.c (.sl 3 0)) [⟨.row ⟨.word, (a.1).words⟩, 0, 1⟩, ⟨.row ⟨.bool, (a.1).gone⟩, 0, 1⟩, ⟨.row ⟨.word, a.2⟩, 0, 1⟩, ⟨.row ⟨.int, r⟩, 0, 2⟩]⟩
theorem impl_LoadCells_ok : CalleeOk Try.prog rowU 25 impl_LoadCells_C := by
  refine calleeP (nl := false) (m0 := 3) (T := [(120, impl_cellsBy_C)]) (H := []) (TabOk.cons impl_cellsBy_ok TabOk.nil) (by kernel_rfl) (by kernel_rfl) (fun p hp => nomatch hp) fun ρ vs W K r h => ?_
  obtain ⟨a, ha, h1⟩ := Option.bind_eq_some_iff.1 h
  clear h
  obtain ⟨rfl, rfl⟩ := impl_LoadCells_D_ok ha
  obtain ⟨q, hq, h2⟩ := Option.bind_eq_some_iff.1 h1
  exact ⟨_, _, h2, (impl_LoadCells_nf (a.1) (a.2) _ _).trans ((impl_LoadCells_bind (a.1) (a.2) _).trans (by rw [hq]; rfl))⟩
/-! loop.example/g00249/spec.l21Cells -/
noncomputable def spec_l21Cells_L2_K (l0 : List GWord) (l1 : List Bool) (l2 : List GWord) (l3 : List GWord) (l4 : List Int) (n5 : Int) (n6 : Int) (n7 : Int) {ρ : Type} (A : Int → Option ρ) (X : List Int → Option ρ) (R : Unit → Option ρ) : Option ρ :=
  cond (decide (n7 < (((l3.length : Nat) : Int))))
    (cond (decide (0 ≤ n7)) (cond (decide (n7 < (((l3.length : Nat) : Int)))) (cond (((bits .and .i64 (List.getD l3 (n7.toNat) (default)).key.perms n5) != 0) == true)
      (Option.bind (spec_l1In n6 (List.getD l3 (n7.toNat) (default)).key.base (w64 ((List.getD l3 (n7.toNat) (default)).key.top - 1))) fun r2 =>
      cond r2
        (cond (decide ((((l4.length) + 1) * 8) ≤ 140737488355328)) (X (l4 ++ [n6])) none)
        (A (w64 (n7 + 1))))
      (A (w64 (n7 + 1)))) none) none)
    (X l4)
noncomputable def spec_l21Cells_L2_step (l0 : List GWord) (l1 : List Bool) (l2 : List GWord) (l3 : List GWord) (l4 : List Int) (n5 : Int) (n6 : Int) (s : Int) : Option (Rnd (Int) (List Int) (Unit)) := spec_l21Cells_L2_K l0 l1 l2 l3 l4 n5 n6 s (fun s => some (.again s)) (fun t => some (.exit t)) (fun k => some (.ret k))
theorem spec_l21Cells_L2_bind (l0 : List GWord) (l1 : List Bool) (l2 : List GWord) (l3 : List GWord) (l4 : List Int) (n5 : Int) (n6 : Int) (s : Int) {ρ : Type} (A : Int → Option ρ) (X : List Int → Option ρ) (R : Unit → Option ρ) : spec_l21Cells_L2_K l0 l1 l2 l3 l4 n5 n6 s A X R = (spec_l21Cells_L2_step l0 l1 l2 l3 l4 n5 n6 s).bind (rndE A X R) := by
  simp only [spec_l21Cells_L2_step, spec_l21Cells_L2_K, Option.bind_assoc, Option.bind_some, Option.bind_none, cond_bind, sumK_bind, rndE_again, rndE_exit, rndE_ret]
def spec_l21Cells_L2_st (p : List GWord × List Bool × List GWord × List GWord × List Int × Int × Int) (s : Int) : List V × Heap Row := ([.c (.int .i64 (p.2.2.2.2.2.1)), .c (.sl 3 0), .c (.sl 4 0), .c (.int .i64 (p.2.2.2.2.2.2)), .c (.int .i64 (s))], [⟨.row ⟨.word, p.1⟩, 0, 1⟩, ⟨.row ⟨.bool, p.2.1⟩, 0, 1⟩, ⟨.row ⟨.word, p.2.2.1⟩, 0, 1⟩, ⟨.row ⟨.word, p.2.2.2.1⟩, 0, 2⟩, ⟨.row ⟨.int, p.2.2.2.2.1⟩, 0, 2⟩])
def spec_l21Cells_L2_so (p : List GWord × List Bool × List GWord × List GWord × List Int × Int × Int) (t : List Int) : List V × Heap Row := ([.c (.int .i64 (p.2.2.2.2.2.1)), .c (.sl 3 0), .c (.sl 4 0), .c (.int .i64 (p.2.2.2.2.2.2))], [⟨.row ⟨.word, p.1⟩, 0, 1⟩, ⟨.row ⟨.bool, p.2.1⟩, 0, 1⟩, ⟨.row ⟨.word, p.2.2.1⟩, 0, 1⟩, ⟨.row ⟨.word, p.2.2.2.1⟩, 0, 2⟩, ⟨.row ⟨.int, t⟩, 0, 2⟩])
def spec_l21Cells_L2_D : List V → Heap Row → Option ((List GWord × List Bool × List GWord × List GWord × List Int × Int × Int) × (Int))
  | [.c (.int .i64 v1), .c (.sl 3 0), .c (.sl 4 0), .c (.int .i64 v2), .c (.int .i64 v3)], [⟨.row ⟨.word, v4⟩, 0, 1⟩, ⟨.row ⟨.bool, v5⟩, 0, 1⟩, ⟨.row ⟨.word, v6⟩, 0, 1⟩, ⟨.row ⟨.word, v7⟩, 0, 2⟩, ⟨.row ⟨.int, v8⟩, 0, 2⟩] => some ((v4, v5, v6, v7, v8, v1, v2), (v3))
  | _, _ => none
theorem spec_l21Cells_L2_D_ok (vs : List V) (L : Heap Row) (p : List GWord × List Bool × List GWord × List GWord × List Int × Int × Int) (s : Int) (h : spec_l21Cells_L2_D vs L = some (p, s)) : spec_l21Cells_L2_st p s = (vs, L) := by
  unfold spec_l21Cells_L2_D at h
  split at h
  · simp at h; obtain ⟨rfl, rfl⟩ := h; rfl
  · simp at h
noncomputable def spec_l21Cells_L2_H : LoopH Row := loopX [2, 7, 8, 9, 10] [2, 7, 8, 9] spec_l21Cells_L2_D (fun p => spec_l21Cells_L2_step (p.1) (p.2.1) (p.2.2.1) (p.2.2.2.1) (p.2.2.2.2.1) (p.2.2.2.2.2.1) (p.2.2.2.2.2.2)) spec_l21Cells_L2_so
noncomputable def spec_l21Cells_L0_K (l0 : List GWord) (l1 : List Bool) (l2 : List GWord) (l3 : List GWord) (n5 : Int) (l4 : List Int) (n6 : Int) {ρ : Type} (A : List Int × Int → Option ρ) (X : List Int → Option ρ) (R : Unit → Option ρ) : Option ρ :=
  cond (decide (n6 < 24))
    (Option.bind (runX (spec_l21Cells_L2_step l0 l1 l2 l3 l4 n5 n6) 0) fun t3 =>
    A (t3, w64 (n6 + 1)))
    (X l4)
noncomputable def spec_l21Cells_L0_step (l0 : List GWord) (l1 : List Bool) (l2 : List GWord) (l3 : List GWord) (n5 : Int) (s : List Int × Int) : Option (Rnd (List Int × Int) (List Int) (Unit)) := spec_l21Cells_L0_K l0 l1 l2 l3 n5 (s.1) (s.2) (fun s => some (.again s)) (fun t => some (.exit t)) (fun k => some (.ret k))
theorem spec_l21Cells_L0_bind (l0 : List GWord) (l1 : List Bool) (l2 : List GWord) (l3 : List GWord) (n5 : Int) (s : List Int × Int) {ρ : Type} (A : List Int × Int → Option ρ) (X : List Int → Option ρ) (R : Unit → Option ρ) : spec_l21Cells_L0_K l0 l1 l2 l3 n5 (s.1) (s.2) A X R = (spec_l21Cells_L0_step l0 l1 l2 l3 n5 s).bind (rndE A X R) := by
  simp only [spec_l21Cells_L0_step, spec_l21Cells_L0_K, Option.bind_assoc, Option.bind_some, Option.bind_none, cond_bind, sumK_bind, rndE_again, rndE_exit, rndE_ret]
def spec_l21Cells_L0_st (p : List GWord × List Bool × List GWord × List GWord × Int) (s : List Int × Int) : List V × Heap Row := ([.c (.int .i64 (p.2.2.2.2)), .c (.sl 3 0), .c (.sl 4 0), .c (.int .i64 (s.2))], [⟨.row ⟨.word, p.1⟩, 0, 1⟩, ⟨.row ⟨.bool, p.2.1⟩, 0, 1⟩, ⟨.row ⟨.word, p.2.2.1⟩, 0, 1⟩, ⟨.row ⟨.word, p.2.2.2.1⟩, 0, 2⟩, ⟨.row ⟨.int, s.1⟩, 0, 2⟩])
def spec_l21Cells_L0_so (p : List GWord × List Bool × List GWord × List GWord × Int) (t : List Int) : List V × Heap Row := ([.c (.sl 3 0)], [⟨.row ⟨.word, p.1⟩, 0, 1⟩, ⟨.row ⟨.bool, p.2.1⟩, 0, 1⟩, ⟨.row ⟨.word, p.2.2.1⟩, 0, 1⟩, ⟨.row ⟨.int, t⟩, 0, 2⟩])
def spec_l21Cells_L0_D : List V → Heap Row → Option ((List GWord × List Bool × List GWord × List GWord × Int) × (List Int × Int))
  | [.c (.int .i64 v1), .c (.sl 3 0), .c (.sl 4 0), .c (.int .i64 v2)], [⟨.row ⟨.word, v3⟩, 0, 1⟩, ⟨.row ⟨.bool, v4⟩, 0, 1⟩, ⟨.row ⟨.word, v5⟩, 0, 1⟩, ⟨.row ⟨.word, v6⟩, 0, 2⟩, ⟨.row ⟨.int, v7⟩, 0, 2⟩] => some ((v3, v4, v5, v6, v1), (v7, v2))
  | _, _ => none
theorem spec_l21Cells_L0_D_ok (vs : List V) (L : Heap Row) (p : List GWord × List Bool × List GWord × List GWord × Int) (s : List Int × Int) (h : spec_l21Cells_L0_D vs L = some (p, s)) : spec_l21Cells_L0_st p s = (vs, L) := by
  unfold spec_l21Cells_L0_D at h
  split at h
  · simp at h; obtain ⟨rfl, rfl⟩ := h; rfl
  · simp at h
noncomputable def spec_l21Cells_L0_H : LoopH Row := loopX [2, 7, 8, 9] [8] spec_l21Cells_L0_D (fun p => spec_l21Cells_L0_step (p.1) (p.2.1) (p.2.2.1) (p.2.2.2.1) (p.2.2.2.2)) spec_l21Cells_L0_so
theorem spec_l21Cells_L2_nf (p : List GWord × List Bool × List GWord × List GWord × List Int × Int × Int) (s : Int) (ρ : Type) (again Kx Kr : List V → Heap Row → Option ρ) : evRound rowU (envOf 121 3 [(160, spec_l1In_C), (23, spec_Closure_C)] [(2, spec_l21Cells_L2_H), (0, spec_l21Cells_L0_H)]) 2 spec_l21Cells_L2_H (loopC 121 2) again (spec_l21Cells_L2_st p s).1 (spec_l21Cells_L2_st p s).2 Kx Kr = spec_l21Cells_L2_K (p.1) (p.2.1) (p.2.2.1) (p.2.2.2.1) (p.2.2.2.2.1) (p.2.2.2.2.2.1) (p.2.2.2.2.2.2) s (fun s => again (spec_l21Cells_L2_st p s).1 (spec_l21Cells_L2_st p s).2) (fun t => Kx (spec_l21Cells_L2_so p t).1 (spec_l21Cells_L2_so p t).2) (fun _ => none) := by kernel_rfl
theorem spec_l21Cells_L2_ok (hb : LoopsOk Try.prog rowU (envOf 121 3 [(160, spec_l1In_C), (23, spec_Closure_C)] [(2, spec_l21Cells_L2_H), (0, spec_l21Cells_L0_H)]) (loopAt (codeP 121) 2)) : LoopOk Try.prog rowU (envOf 121 3 [(160, spec_l1In_C), (23, spec_Closure_C)] [(2, spec_l21Cells_L2_H), (0, spec_l21Cells_L0_H)]) 2 (loopAt (codeP 121) 2) spec_l21Cells_L2_H :=
  loopX_ok tagOk mixed envNl (envT (TabOk.cons spec_l1In_ok (TabOk.cons spec_Closure_ok TabOk.nil))) hb spec_l21Cells_L2_st spec_l21Cells_L2_D_ok fun p s ρ A Kx Kr => (spec_l21Cells_L2_nf p s ρ A Kx Kr).trans (spec_l21Cells_L2_bind (p.1) (p.2.1) (p.2.2.1) (p.2.2.2.1) (p.2.2.2.2.1) (p.2.2.2.2.2.1) (p.2.2.2.2.2.2) s _ _ _)
theorem spec_l21Cells_L0_nf (p : List GWord × List Bool × List GWord × List GWord × Int) (s : List Int × Int) (ρ : Type) (again Kx Kr : List V → Heap Row → Option ρ) : evRound rowU (envOf 121 3 [(160, spec_l1In_C), (23, spec_Closure_C)] [(2, spec_l21Cells_L2_H), (0, spec_l21Cells_L0_H)]) 0 spec_l21Cells_L0_H (loopC 121 0) again (spec_l21Cells_L0_st p s).1 (spec_l21Cells_L0_st p s).2 Kx Kr = spec_l21Cells_L0_K (p.1) (p.2.1) (p.2.2.1) (p.2.2.2.1) (p.2.2.2.2) (s.1) (s.2) (fun s => again (spec_l21Cells_L0_st p s).1 (spec_l21Cells_L0_st p s).2) (fun t => Kx (spec_l21Cells_L0_so p t).1 (spec_l21Cells_L0_so p t).2) (fun _ => none) := by kernel_rfl
theorem spec_l21Cells_L0_ok (hb : LoopsOk Try.prog rowU (envOf 121 3 [(160, spec_l1In_C), (23, spec_Closure_C)] [(2, spec_l21Cells_L2_H), (0, spec_l21Cells_L0_H)]) (loopAt (codeP 121) 0)) : LoopOk Try.prog rowU (envOf 121 3 [(160, spec_l1In_C), (23, spec_Closure_C)] [(2, spec_l21Cells_L2_H), (0, spec_l21Cells_L0_H)]) 0 (loopAt (codeP 121) 0) spec_l21Cells_L0_H :=
  loopX_ok tagOk mixed envNl (envT (TabOk.cons spec_l1In_ok (TabOk.cons spec_Closure_ok TabOk.nil))) hb spec_l21Cells_L0_st spec_l21Cells_L0_D_ok fun p s ρ A Kx Kr => (spec_l21Cells_L0_nf p s ρ A Kx Kr).trans (spec_l21Cells_L0_bind (p.1) (p.2.1) (p.2.2.1) (p.2.2.2.1) (p.2.2.2.2) s _ _ _)
noncomputable def spec_l21Cells_K (x0 : GMemory) (x1 : List GWord) (x2 : Int) {ρ : Type} (K : List Int → Option ρ) : Option ρ :=
  Option.bind (spec_Closure x0 x1) fun r1 =>
  Option.bind (runX (spec_l21Cells_L0_step x0.words x0.gone x1 r1 x2) ([], 0)) fun t4 =>
  K t4
noncomputable def spec_l21Cells (x0 : GMemory) (x1 : List GWord) (x2 : Int) : Option (List Int) := spec_l21Cells_K x0 x1 x2 some
theorem spec_l21Cells_bind (x0 : GMemory) (x1 : List GWord) (x2 : Int) {ρ : Type} (K : List Int → Option ρ) : spec_l21Cells_K x0 x1 x2 K = (spec_l21Cells x0 x1 x2).bind K := by
  simp only [spec_l21Cells, spec_l21Cells_K, Option.bind_assoc, Option.bind_some, Option.bind_none, cond_bind, sumK_bind]
noncomputable def spec_l21Cells_E : Env Row := envN false 121 3 [(160, spec_l1In_C), (23, spec_Closure_C)] [(2, spec_l21Cells_L2_H), (0, spec_l21Cells_L0_H)]
theorem spec_l21Cells_nf (x0 : GMemory) (x1 : List GWord) (x2 : Int) (ρ : Type) (K : V → Heap Row → Option ρ) : evBody rowU spec_l21Cells_E (bodyC 121) [.a [.sl 0 0, .sl 1 0], .c (.sl 2 0), .c (.int .i64 x2)] [⟨.row ⟨.word, x0.words⟩, 0, 1⟩, ⟨.row ⟨.bool, x0.gone⟩, 0, 1⟩, ⟨.row ⟨.word, x1⟩, 0, 1⟩] K = spec_l21Cells_K x0 x1 x2 (fun r => K (.c (.sl 3 0)) [⟨.row ⟨.word, x0.words⟩, 0, 1⟩, ⟨.row ⟨.bool, x0.gone⟩, 0, 1⟩, ⟨.row ⟨.word, x1⟩, 0, 1⟩, ⟨.row ⟨.int, r⟩, 0, 2⟩]) := by kernel_rfl
def spec_l21Cells_D : List V → Heap Row → Option (GMemory × List GWord × Int)
  | [.a (.sl 0 0 :: .sl 1 0 :: []), .c (.sl 2 0), .c (.int .i64 v1)], [⟨.row ⟨.word, v2⟩, 0, 1⟩, ⟨.row ⟨.bool, v3⟩, 0, 1⟩, ⟨.row ⟨.word, v4⟩, 0, 1⟩] => some (⟨v2, v3⟩, v4, v1)
  | _, _ => none
theorem spec_l21Cells_D_ok {vs : List V} {W : Heap Row} {a : GMemory × List GWord × Int} (h : spec_l21Cells_D vs W = some a) : vs = [.a [.sl 0 0, .sl 1 0], .c (.sl 2 0), .c (.int .i64 (a.2.2))] ∧ W = [⟨.row ⟨.word, (a.1).words⟩, 0, 1⟩, ⟨.row ⟨.bool, (a.1).gone⟩, 0, 1⟩, ⟨.row ⟨.word, a.2.1⟩, 0, 1⟩] := by
  unfold spec_l21Cells_D at h
  split at h
  · simp at h; subst h; exact ⟨rfl, rfl⟩
  · simp at h
noncomputable def spec_l21Cells_C : Callee Row := ⟨[(false, 0), (false, 0), (false, 0)], fun _ vs W K => (spec_l21Cells_D vs W).bind fun a => (spec_l21Cells a.1 a.2.1 a.2.2).bind fun r => K (.c (.sl 3 0)) [⟨.row ⟨.word, (a.1).words⟩, 0, 1⟩, ⟨.row ⟨.bool, (a.1).gone⟩, 0, 1⟩, ⟨.row ⟨.word, a.2.1⟩, 0, 1⟩, ⟨.row ⟨.int, r⟩, 0, 2⟩]⟩
theorem spec_l21Cells_ok : CalleeOk Try.prog rowU 121 spec_l21Cells_C := by
  refine calleeP (nl := false) (m0 := 3) (T := [(160, spec_l1In_C), (23, spec_Closure_C)]) (H := [(2, spec_l21Cells_L2_H), (0, spec_l21Cells_L0_H)]) (TabOk.cons spec_l1In_ok (TabOk.cons spec_Closure_ok TabOk.nil)) (by kernel_rfl) (by kernel_rfl) (fun p hp hb => by
    simp only [List.mem_cons, List.not_mem_nil, or_false] at hp
    rcases hp with rfl | rfl
    · exact spec_l21Cells_L2_ok hb
    · exact spec_l21Cells_L0_ok hb) fun ρ vs W K r h => ?_
  obtain ⟨a, ha, h1⟩ := Option.bind_eq_some_iff.1 h
  clear h
  obtain ⟨rfl, rfl⟩ := spec_l21Cells_D_ok ha
  obtain ⟨q, hq, h2⟩ := Option.bind_eq_some_iff.1 h1
  exact ⟨_, _, h2, (spec_l21Cells_nf (a.1) (a.2.1) (a.2.2) _ _).trans ((spec_l21Cells_bind (a.1) (a.2.1) (a.2.2) _).trans (by rw [hq]; rfl))⟩
/-! loop.example/g00249/spec.LoadCells -/
noncomputable def spec_LoadCells_K (x0 : GMemory) (x1 : List GWord) {ρ : Type} (K : List Int → Option ρ) : Option ρ :=
  Option.bind (spec_l21Cells x0 x1 1) fun r1 =>
  K r1
noncomputable def spec_LoadCells (x0 : GMemory) (x1 : List GWord) : Option (List Int) := spec_LoadCells_K x0 x1 some
theorem spec_LoadCells_bind (x0 : GMemory) (x1 : List GWord) {ρ : Type} (K : List Int → Option ρ) : spec_LoadCells_K x0 x1 K = (spec_LoadCells x0 x1).bind K := by
  simp only [spec_LoadCells, spec_LoadCells_K, Option.bind_assoc, Option.bind_some, Option.bind_none, cond_bind, sumK_bind]
noncomputable def spec_LoadCells_E : Env Row := envN false 26 3 [(121, spec_l21Cells_C)] []
theorem spec_LoadCells_nf (x0 : GMemory) (x1 : List GWord) (ρ : Type) (K : V → Heap Row → Option ρ) : evBody rowU spec_LoadCells_E (bodyC 26) [.a [.sl 0 0, .sl 1 0], .c (.sl 2 0)] [⟨.row ⟨.word, x0.words⟩, 0, 1⟩, ⟨.row ⟨.bool, x0.gone⟩, 0, 1⟩, ⟨.row ⟨.word, x1⟩, 0, 1⟩] K = spec_LoadCells_K x0 x1 (fun r => K (.c (.sl 3 0)) [⟨.row ⟨.word, x0.words⟩, 0, 1⟩, ⟨.row ⟨.bool, x0.gone⟩, 0, 1⟩, ⟨.row ⟨.word, x1⟩, 0, 1⟩, ⟨.row ⟨.int, r⟩, 0, 2⟩]) := by kernel_rfl
def spec_LoadCells_D : List V → Heap Row → Option (GMemory × List GWord)
  | [.a (.sl 0 0 :: .sl 1 0 :: []), .c (.sl 2 0)], [⟨.row ⟨.word, v1⟩, 0, 1⟩, ⟨.row ⟨.bool, v2⟩, 0, 1⟩, ⟨.row ⟨.word, v3⟩, 0, 1⟩] => some (⟨v1, v2⟩, v3)
  | _, _ => none
theorem spec_LoadCells_D_ok {vs : List V} {W : Heap Row} {a : GMemory × List GWord} (h : spec_LoadCells_D vs W = some a) : vs = [.a [.sl 0 0, .sl 1 0], .c (.sl 2 0)] ∧ W = [⟨.row ⟨.word, (a.1).words⟩, 0, 1⟩, ⟨.row ⟨.bool, (a.1).gone⟩, 0, 1⟩, ⟨.row ⟨.word, a.2⟩, 0, 1⟩] := by
  unfold spec_LoadCells_D at h
  split at h
  · simp at h; subst h; exact ⟨rfl, rfl⟩
  · simp at h
noncomputable def spec_LoadCells_C : Callee Row := ⟨[(false, 0), (false, 0), (false, 0)], fun _ vs W K => (spec_LoadCells_D vs W).bind fun a => (spec_LoadCells a.1 a.2).bind fun r => K (.c (.sl 3 0)) [⟨.row ⟨.word, (a.1).words⟩, 0, 1⟩, ⟨.row ⟨.bool, (a.1).gone⟩, 0, 1⟩, ⟨.row ⟨.word, a.2⟩, 0, 1⟩, ⟨.row ⟨.int, r⟩, 0, 2⟩]⟩
theorem spec_LoadCells_ok : CalleeOk Try.prog rowU 26 spec_LoadCells_C := by
  refine calleeP (nl := false) (m0 := 3) (T := [(121, spec_l21Cells_C)]) (H := []) (TabOk.cons spec_l21Cells_ok TabOk.nil) (by kernel_rfl) (by kernel_rfl) (fun p hp => nomatch hp) fun ρ vs W K r h => ?_
  obtain ⟨a, ha, h1⟩ := Option.bind_eq_some_iff.1 h
  clear h
  obtain ⟨rfl, rfl⟩ := spec_LoadCells_D_ok ha
  obtain ⟨q, hq, h2⟩ := Option.bind_eq_some_iff.1 h1
  exact ⟨_, _, h2, (spec_LoadCells_nf (a.1) (a.2) _ _).trans ((spec_LoadCells_bind (a.1) (a.2) _).trans (by rw [hq]; rfl))⟩
/-! loop.example/g00249/laws.sameInts -/
noncomputable def laws_sameInts_L0_K (l0 : List Int) (l1 : List Int) (n2 : Int) {ρ : Type} (A : Int → Option ρ) (X : Unit → Option ρ) (R : Unit → Option ρ) : Option ρ :=
  cond (decide (n2 < (((l0.length : Nat) : Int))))
    (cond (decide (0 ≤ n2)) (cond (decide (n2 < (((l0.length : Nat) : Int)))) (cond (decide (0 ≤ n2)) (cond (decide (n2 < (((l1.length : Nat) : Int)))) (cond ((List.getD l0 (n2.toNat) 0) != (List.getD l1 (n2.toNat) 0))
      (R ())
      (A (w64 (n2 + 1)))) none) none) none) none)
    (X ())
noncomputable def laws_sameInts_L0_step (l0 : List Int) (l1 : List Int) (s : Int) : Option (Rnd (Int) (Unit) (Unit)) := laws_sameInts_L0_K l0 l1 s (fun s => some (.again s)) (fun t => some (.exit t)) (fun k => some (.ret k))
theorem laws_sameInts_L0_bind (l0 : List Int) (l1 : List Int) (s : Int) {ρ : Type} (A : Int → Option ρ) (X : Unit → Option ρ) (R : Unit → Option ρ) : laws_sameInts_L0_K l0 l1 s A X R = (laws_sameInts_L0_step l0 l1 s).bind (rndE A X R) := by
  simp only [laws_sameInts_L0_step, laws_sameInts_L0_K, Option.bind_assoc, Option.bind_some, Option.bind_none, cond_bind, sumK_bind, rndE_again, rndE_exit, rndE_ret]
def laws_sameInts_L0_st (p : List Int × List Int) (s : Int) : List V × Heap Row := ([.c (.sl 0 0), .c (.sl 1 0), .c (.int .i64 (s))], [⟨.row ⟨.int, p.1⟩, 0, 1⟩, ⟨.row ⟨.int, p.2⟩, 0, 1⟩])
def laws_sameInts_L0_so (p : List Int × List Int) (t : Unit) : List V × Heap Row := ([], [⟨.row ⟨.int, p.1⟩, 0, 1⟩, ⟨.row ⟨.int, p.2⟩, 0, 1⟩])
def laws_sameInts_L0_sr (p : List Int × List Int) (k : Unit) : List V × Heap Row := ([.c (.bool false)], [⟨.row ⟨.int, p.1⟩, 0, 1⟩, ⟨.row ⟨.int, p.2⟩, 0, 1⟩])
def laws_sameInts_L0_D : List V → Heap Row → Option ((List Int × List Int) × (Int))
  | [.c (.sl 0 0), .c (.sl 1 0), .c (.int .i64 v1)], [⟨.row ⟨.int, v2⟩, 0, 1⟩, ⟨.row ⟨.int, v3⟩, 0, 1⟩] => some ((v2, v3), (v1))
  | _, _ => none
theorem laws_sameInts_L0_D_ok (vs : List V) (L : Heap Row) (p : List Int × List Int) (s : Int) (h : laws_sameInts_L0_D vs L = some (p, s)) : laws_sameInts_L0_st p s = (vs, L) := by
  unfold laws_sameInts_L0_D at h
  split at h
  · simp at h; obtain ⟨rfl, rfl⟩ := h; rfl
  · simp at h
noncomputable def laws_sameInts_L0_H : LoopH Row := loopR [0, 1, 5] [] laws_sameInts_L0_D (fun p => laws_sameInts_L0_step (p.1) (p.2)) laws_sameInts_L0_so laws_sameInts_L0_sr
theorem laws_sameInts_L0_nf (p : List Int × List Int) (s : Int) (ρ : Type) (again Kx Kr : List V → Heap Row → Option ρ) : evRound rowU (envOf 24 2 [] [(0, laws_sameInts_L0_H)]) 0 laws_sameInts_L0_H (loopC 24 0) again (laws_sameInts_L0_st p s).1 (laws_sameInts_L0_st p s).2 Kx Kr = laws_sameInts_L0_K (p.1) (p.2) s (fun s => again (laws_sameInts_L0_st p s).1 (laws_sameInts_L0_st p s).2) (fun t => Kx (laws_sameInts_L0_so p t).1 (laws_sameInts_L0_so p t).2) (fun k => Kr (laws_sameInts_L0_sr p k).1 (laws_sameInts_L0_sr p k).2) := by kernel_rfl
theorem laws_sameInts_L0_ok (hb : LoopsOk Try.prog rowU (envOf 24 2 [] [(0, laws_sameInts_L0_H)]) (loopAt (codeP 24) 0)) : LoopOk Try.prog rowU (envOf 24 2 [] [(0, laws_sameInts_L0_H)]) 0 (loopAt (codeP 24) 0) laws_sameInts_L0_H :=
  loopR_ok tagOk mixed envNl (envT TabOk.nil) hb laws_sameInts_L0_st laws_sameInts_L0_D_ok fun p s ρ A Kx Kr => (laws_sameInts_L0_nf p s ρ A Kx Kr).trans (laws_sameInts_L0_bind (p.1) (p.2) s _ _ _)
noncomputable def laws_sameInts_K (x0 : List Int) (x1 : List Int) {ρ : Type} (K : Bool → Option ρ) : Option ρ :=
  cond ((((x0.length : Nat) : Int)) != (((x1.length : Nat) : Int)))
    (K false)
    (Option.bind (runL (laws_sameInts_L0_step x0 x1) 0) fun ot1 => sumK ot1
      (fun t1 => K true)
      (fun k2 => K false))
noncomputable def laws_sameInts (x0 : List Int) (x1 : List Int) : Option (Bool) := laws_sameInts_K x0 x1 some
theorem laws_sameInts_bind (x0 : List Int) (x1 : List Int) {ρ : Type} (K : Bool → Option ρ) : laws_sameInts_K x0 x1 K = (laws_sameInts x0 x1).bind K := by
  simp only [laws_sameInts, laws_sameInts_K, Option.bind_assoc, Option.bind_some, Option.bind_none, cond_bind, sumK_bind]
noncomputable def laws_sameInts_E : Env Row := envN false 24 2 [] [(0, laws_sameInts_L0_H)]
theorem laws_sameInts_nf (x0 : List Int) (x1 : List Int) (ρ : Type) (K : V → Heap Row → Option ρ) : evBody rowU laws_sameInts_E (bodyC 24) [.c (.sl 0 0), .c (.sl 1 0)] [⟨.row ⟨.int, x0⟩, 0, 1⟩, ⟨.row ⟨.int, x1⟩, 0, 1⟩] K = laws_sameInts_K x0 x1 (fun r => K (.c (.bool r)) [⟨.row ⟨.int, x0⟩, 0, 1⟩, ⟨.row ⟨.int, x1⟩, 0, 1⟩]) := by kernel_rfl
def laws_sameInts_D : List V → Heap Row → Option (List Int × List Int)
  | [.c (.sl 0 0), .c (.sl 1 0)], [⟨.row ⟨.int, v1⟩, 0, 1⟩, ⟨.row ⟨.int, v2⟩, 0, 1⟩] => some (v1, v2)
  | _, _ => none
theorem laws_sameInts_D_ok {vs : List V} {W : Heap Row} {a : List Int × List Int} (h : laws_sameInts_D vs W = some a) : vs = [.c (.sl 0 0), .c (.sl 1 0)] ∧ W = [⟨.row ⟨.int, a.1⟩, 0, 1⟩, ⟨.row ⟨.int, a.2⟩, 0, 1⟩] := by
  unfold laws_sameInts_D at h
  split at h
  · simp at h; subst h; exact ⟨rfl, rfl⟩
  · simp at h
noncomputable def laws_sameInts_C : Callee Row := ⟨[(false, 0), (false, 0)], fun _ vs W K => (laws_sameInts_D vs W).bind fun a => (laws_sameInts a.1 a.2).bind fun r => K (.c (.bool r)) [⟨.row ⟨.int, a.1⟩, 0, 1⟩, ⟨.row ⟨.int, a.2⟩, 0, 1⟩]⟩
theorem laws_sameInts_ok : CalleeOk Try.prog rowU 24 laws_sameInts_C := by
  refine calleeP (nl := false) (m0 := 2) (T := []) (H := [(0, laws_sameInts_L0_H)]) TabOk.nil (by kernel_rfl) (by kernel_rfl) (fun p hp hb => by
    simp only [List.mem_cons, List.not_mem_nil, or_false] at hp
    subst hp
    exact laws_sameInts_L0_ok hb) fun ρ vs W K r h => ?_
  obtain ⟨a, ha, h1⟩ := Option.bind_eq_some_iff.1 h
  clear h
  obtain ⟨rfl, rfl⟩ := laws_sameInts_D_ok ha
  obtain ⟨q, hq, h2⟩ := Option.bind_eq_some_iff.1 h1
  exact ⟨_, _, h2, (laws_sameInts_nf (a.1) (a.2) _ _).trans ((laws_sameInts_bind (a.1) (a.2) _).trans (by rw [hq]; rfl))⟩
/-! loop.example/g00249/impl.StoreCells -/
noncomputable def impl_StoreCells_K (x0 : GMemory) (x1 : List GWord) {ρ : Type} (K : List Int → Option ρ) : Option ρ :=
  Option.bind (impl_cellsBy x0 x1 2) fun r1 =>
  K r1
noncomputable def impl_StoreCells (x0 : GMemory) (x1 : List GWord) : Option (List Int) := impl_StoreCells_K x0 x1 some
theorem impl_StoreCells_bind (x0 : GMemory) (x1 : List GWord) {ρ : Type} (K : List Int → Option ρ) : impl_StoreCells_K x0 x1 K = (impl_StoreCells x0 x1).bind K := by
  simp only [impl_StoreCells, impl_StoreCells_K, Option.bind_assoc, Option.bind_some, Option.bind_none, cond_bind, sumK_bind]
noncomputable def impl_StoreCells_E : Env Row := envN false 27 3 [(120, impl_cellsBy_C)] []
theorem impl_StoreCells_nf (x0 : GMemory) (x1 : List GWord) (ρ : Type) (K : V → Heap Row → Option ρ) : evBody rowU impl_StoreCells_E (bodyC 27) [.a [.sl 0 0, .sl 1 0], .c (.sl 2 0)] [⟨.row ⟨.word, x0.words⟩, 0, 1⟩, ⟨.row ⟨.bool, x0.gone⟩, 0, 1⟩, ⟨.row ⟨.word, x1⟩, 0, 1⟩] K = impl_StoreCells_K x0 x1 (fun r => K (.c (.sl 3 0)) [⟨.row ⟨.word, x0.words⟩, 0, 1⟩, ⟨.row ⟨.bool, x0.gone⟩, 0, 1⟩, ⟨.row ⟨.word, x1⟩, 0, 1⟩, ⟨.row ⟨.int, r⟩, 0, 2⟩]) := by kernel_rfl
def impl_StoreCells_D : List V → Heap Row → Option (GMemory × List GWord)
  | [.a (.sl 0 0 :: .sl 1 0 :: []), .c (.sl 2 0)], [⟨.row ⟨.word, v1⟩, 0, 1⟩, ⟨.row ⟨.bool, v2⟩, 0, 1⟩, ⟨.row ⟨.word, v3⟩, 0, 1⟩] => some (⟨v1, v2⟩, v3)
  | _, _ => none
theorem impl_StoreCells_D_ok {vs : List V} {W : Heap Row} {a : GMemory × List GWord} (h : impl_StoreCells_D vs W = some a) : vs = [.a [.sl 0 0, .sl 1 0], .c (.sl 2 0)] ∧ W = [⟨.row ⟨.word, (a.1).words⟩, 0, 1⟩, ⟨.row ⟨.bool, (a.1).gone⟩, 0, 1⟩, ⟨.row ⟨.word, a.2⟩, 0, 1⟩] := by
  unfold impl_StoreCells_D at h
  split at h
  · simp at h; subst h; exact ⟨rfl, rfl⟩
  · simp at h
noncomputable def impl_StoreCells_C : Callee Row := ⟨[(false, 0), (false, 0), (false, 0)], fun _ vs W K => (impl_StoreCells_D vs W).bind fun a => (impl_StoreCells a.1 a.2).bind fun r => K (.c (.sl 3 0)) [⟨.row ⟨.word, (a.1).words⟩, 0, 1⟩, ⟨.row ⟨.bool, (a.1).gone⟩, 0, 1⟩, ⟨.row ⟨.word, a.2⟩, 0, 1⟩, ⟨.row ⟨.int, r⟩, 0, 2⟩]⟩
theorem impl_StoreCells_ok : CalleeOk Try.prog rowU 27 impl_StoreCells_C := by
  refine calleeP (nl := false) (m0 := 3) (T := [(120, impl_cellsBy_C)]) (H := []) (TabOk.cons impl_cellsBy_ok TabOk.nil) (by kernel_rfl) (by kernel_rfl) (fun p hp => nomatch hp) fun ρ vs W K r h => ?_
  obtain ⟨a, ha, h1⟩ := Option.bind_eq_some_iff.1 h
  clear h
  obtain ⟨rfl, rfl⟩ := impl_StoreCells_D_ok ha
  obtain ⟨q, hq, h2⟩ := Option.bind_eq_some_iff.1 h1
  exact ⟨_, _, h2, (impl_StoreCells_nf (a.1) (a.2) _ _).trans ((impl_StoreCells_bind (a.1) (a.2) _).trans (by rw [hq]; rfl))⟩
/-! loop.example/g00249/spec.StoreCells -/
noncomputable def spec_StoreCells_K (x0 : GMemory) (x1 : List GWord) {ρ : Type} (K : List Int → Option ρ) : Option ρ :=
  Option.bind (spec_l21Cells x0 x1 2) fun r1 =>
  K r1
noncomputable def spec_StoreCells (x0 : GMemory) (x1 : List GWord) : Option (List Int) := spec_StoreCells_K x0 x1 some
theorem spec_StoreCells_bind (x0 : GMemory) (x1 : List GWord) {ρ : Type} (K : List Int → Option ρ) : spec_StoreCells_K x0 x1 K = (spec_StoreCells x0 x1).bind K := by
  simp only [spec_StoreCells, spec_StoreCells_K, Option.bind_assoc, Option.bind_some, Option.bind_none, cond_bind, sumK_bind]
noncomputable def spec_StoreCells_E : Env Row := envN false 28 3 [(121, spec_l21Cells_C)] []
theorem spec_StoreCells_nf (x0 : GMemory) (x1 : List GWord) (ρ : Type) (K : V → Heap Row → Option ρ) : evBody rowU spec_StoreCells_E (bodyC 28) [.a [.sl 0 0, .sl 1 0], .c (.sl 2 0)] [⟨.row ⟨.word, x0.words⟩, 0, 1⟩, ⟨.row ⟨.bool, x0.gone⟩, 0, 1⟩, ⟨.row ⟨.word, x1⟩, 0, 1⟩] K = spec_StoreCells_K x0 x1 (fun r => K (.c (.sl 3 0)) [⟨.row ⟨.word, x0.words⟩, 0, 1⟩, ⟨.row ⟨.bool, x0.gone⟩, 0, 1⟩, ⟨.row ⟨.word, x1⟩, 0, 1⟩, ⟨.row ⟨.int, r⟩, 0, 2⟩]) := by kernel_rfl
def spec_StoreCells_D : List V → Heap Row → Option (GMemory × List GWord)
  | [.a (.sl 0 0 :: .sl 1 0 :: []), .c (.sl 2 0)], [⟨.row ⟨.word, v1⟩, 0, 1⟩, ⟨.row ⟨.bool, v2⟩, 0, 1⟩, ⟨.row ⟨.word, v3⟩, 0, 1⟩] => some (⟨v1, v2⟩, v3)
  | _, _ => none
theorem spec_StoreCells_D_ok {vs : List V} {W : Heap Row} {a : GMemory × List GWord} (h : spec_StoreCells_D vs W = some a) : vs = [.a [.sl 0 0, .sl 1 0], .c (.sl 2 0)] ∧ W = [⟨.row ⟨.word, (a.1).words⟩, 0, 1⟩, ⟨.row ⟨.bool, (a.1).gone⟩, 0, 1⟩, ⟨.row ⟨.word, a.2⟩, 0, 1⟩] := by
  unfold spec_StoreCells_D at h
  split at h
  · simp at h; subst h; exact ⟨rfl, rfl⟩
  · simp at h
noncomputable def spec_StoreCells_C : Callee Row := ⟨[(false, 0), (false, 0), (false, 0)], fun _ vs W K => (spec_StoreCells_D vs W).bind fun a => (spec_StoreCells a.1 a.2).bind fun r => K (.c (.sl 3 0)) [⟨.row ⟨.word, (a.1).words⟩, 0, 1⟩, ⟨.row ⟨.bool, (a.1).gone⟩, 0, 1⟩, ⟨.row ⟨.word, a.2⟩, 0, 1⟩, ⟨.row ⟨.int, r⟩, 0, 2⟩]⟩
theorem spec_StoreCells_ok : CalleeOk Try.prog rowU 28 spec_StoreCells_C := by
  refine calleeP (nl := false) (m0 := 3) (T := [(121, spec_l21Cells_C)]) (H := []) (TabOk.cons spec_l21Cells_ok TabOk.nil) (by kernel_rfl) (by kernel_rfl) (fun p hp => nomatch hp) fun ρ vs W K r h => ?_
  obtain ⟨a, ha, h1⟩ := Option.bind_eq_some_iff.1 h
  clear h
  obtain ⟨rfl, rfl⟩ := spec_StoreCells_D_ok ha
  obtain ⟨q, hq, h2⟩ := Option.bind_eq_some_iff.1 h1
  exact ⟨_, _, h2, (spec_StoreCells_nf (a.1) (a.2) _ _).trans ((spec_StoreCells_bind (a.1) (a.2) _).trans (by rw [hq]; rfl))⟩
/-! loop.example/g00249/impl.CanSeal$1 -/
def impl_CanSeal_1_K (x0 : GWord) {ρ : Type} (K : Bool → Option ρ) : Option ρ :=
  Option.bind (impl_has x0 32) fun r1 =>
  K r1
def impl_CanSeal_1 (x0 : GWord) : Option (Bool) := impl_CanSeal_1_K x0 some
theorem impl_CanSeal_1_bind (x0 : GWord) {ρ : Type} (K : Bool → Option ρ) : impl_CanSeal_1_K x0 K = (impl_CanSeal_1 x0).bind K := by
  simp only [impl_CanSeal_1, impl_CanSeal_1_K, Option.bind_assoc, Option.bind_some, Option.bind_none, cond_bind, sumK_bind]
noncomputable def impl_CanSeal_1_E : Env Row := envN false 122 0 [(123, impl_has_C)] []
theorem impl_CanSeal_1_nf (x0 : GWord) (ρ : Type) (K : V → Heap Row → Option ρ) : evBody rowU impl_CanSeal_1_E (bodyC 122) [.a [.int .i64 x0.n, .bool x0.is, .int .i64 x0.key.base, .int .i64 x0.key.top, .int .i64 x0.key.perms, .int .i64 x0.key.seal_]] [] K = impl_CanSeal_1_K x0 (fun r => K (.c (.bool r)) []) := by kernel_rfl
def impl_CanSeal_1_D : List V → Heap Row → Option (GWord)
  | [.a (.int .i64 v1 :: .bool v2 :: .int .i64 v3 :: .int .i64 v4 :: .int .i64 v5 :: .int .i64 v6 :: [])], [] => some (⟨v1, v2, ⟨v3, v4, v5, v6⟩⟩)
  | _, _ => none
theorem impl_CanSeal_1_D_ok {vs : List V} {W : Heap Row} {a : GWord} (h : impl_CanSeal_1_D vs W = some a) : vs = [.a [.int .i64 (a).n, .bool (a).is, .int .i64 (a).key.base, .int .i64 (a).key.top, .int .i64 (a).key.perms, .int .i64 (a).key.seal_]] ∧ W = [] := by
  unfold impl_CanSeal_1_D at h
  split at h
  · simp at h; subst h; exact ⟨rfl, rfl⟩
  · simp at h
def impl_CanSeal_1_C : Callee Row := ⟨[], fun _ vs W K => (impl_CanSeal_1_D vs W).bind fun a => (impl_CanSeal_1 a).bind fun r => K (.c (.bool r)) []⟩
theorem impl_CanSeal_1_ok : CalleeOk Try.prog rowU 122 impl_CanSeal_1_C := by
  refine calleeP (nl := false) (m0 := 0) (T := [(123, impl_has_C)]) (H := []) (TabOk.cons impl_has_ok TabOk.nil) (by kernel_rfl) (by kernel_rfl) (fun p hp => nomatch hp) fun ρ vs W K r h => ?_
  obtain ⟨a, ha, h1⟩ := Option.bind_eq_some_iff.1 h
  clear h
  obtain ⟨rfl, rfl⟩ := impl_CanSeal_1_D_ok ha
  obtain ⟨q, hq, h2⟩ := Option.bind_eq_some_iff.1 h1
  exact ⟨_, _, h2, (impl_CanSeal_1_nf a _ _).trans ((impl_CanSeal_1_bind a _).trans (by rw [hq]; rfl))⟩
/-! slices.IndexFunc[[]loop.example/g00249/impl.Word,loop.example/g00249/impl.Word] -/
noncomputable def slices_IndexFunc_122_L0_K (l0 : List GWord) (n1 : Int) (n2 : Int) {ρ : Type} (A : Int → Option ρ) (X : Unit → Option ρ) (R : Int → Option ρ) : Option ρ :=
  cond (decide (n2 < n1))
    (cond (decide (0 ≤ n2)) (cond (decide (n2 < (((l0.length : Nat) : Int)))) (Option.bind (impl_CanSeal_1 (List.getD l0 (n2.toNat) (default))) fun r1 =>
    cond r1
      (R n2)
      (A (w64 (n2 + 1)))) none) none)
    (X ())
noncomputable def slices_IndexFunc_122_L0_step (l0 : List GWord) (n1 : Int) (s : Int) : Option (Rnd (Int) (Unit) (Int)) := slices_IndexFunc_122_L0_K l0 n1 s (fun s => some (.again s)) (fun t => some (.exit t)) (fun k => some (.ret k))
theorem slices_IndexFunc_122_L0_bind (l0 : List GWord) (n1 : Int) (s : Int) {ρ : Type} (A : Int → Option ρ) (X : Unit → Option ρ) (R : Int → Option ρ) : slices_IndexFunc_122_L0_K l0 n1 s A X R = (slices_IndexFunc_122_L0_step l0 n1 s).bind (rndE A X R) := by
  simp only [slices_IndexFunc_122_L0_step, slices_IndexFunc_122_L0_K, Option.bind_assoc, Option.bind_some, Option.bind_none, cond_bind, sumK_bind, rndE_again, rndE_exit, rndE_ret]
def slices_IndexFunc_122_L0_st (p : List GWord × Int) (s : Int) : List V × Heap Row := ([.c (.sl 0 0), .c (.fn 122 []), .c (.int .i64 (p.2)), .c (.int .i64 (s))], [⟨.row ⟨.word, p.1⟩, 0, 1⟩])
def slices_IndexFunc_122_L0_so (p : List GWord × Int) (t : Unit) : List V × Heap Row := ([], [⟨.row ⟨.word, p.1⟩, 0, 1⟩])
def slices_IndexFunc_122_L0_sr (p : List GWord × Int) (k : Int) : List V × Heap Row := ([.c (.int .i64 (k))], [⟨.row ⟨.word, p.1⟩, 0, 1⟩])
def slices_IndexFunc_122_L0_D : List V → Heap Row → Option ((List GWord × Int) × (Int))
  | [.c (.sl 0 0), .c (.fn 122 []), .c (.int .i64 v1), .c (.int .i64 v2)], [⟨.row ⟨.word, v3⟩, 0, 1⟩] => some ((v3, v1), (v2))
  | _, _ => none
theorem slices_IndexFunc_122_L0_D_ok (vs : List V) (L : Heap Row) (p : List GWord × Int) (s : Int) (h : slices_IndexFunc_122_L0_D vs L = some (p, s)) : slices_IndexFunc_122_L0_st p s = (vs, L) := by
  unfold slices_IndexFunc_122_L0_D at h
  split at h
  · simp at h; obtain ⟨rfl, rfl⟩ := h; rfl
  · simp at h
noncomputable def slices_IndexFunc_122_L0_H : LoopH Row := loopR [0, 1, 7, 8] [] slices_IndexFunc_122_L0_D (fun p => slices_IndexFunc_122_L0_step (p.1) (p.2)) slices_IndexFunc_122_L0_so slices_IndexFunc_122_L0_sr
theorem slices_IndexFunc_122_L0_nf (p : List GWord × Int) (s : Int) (ρ : Type) (again Kx Kr : List V → Heap Row → Option ρ) : evRound rowU (envOf 196 1 [(122, impl_CanSeal_1_C)] [(0, slices_IndexFunc_122_L0_H)]) 0 slices_IndexFunc_122_L0_H (loopC 196 0) again (slices_IndexFunc_122_L0_st p s).1 (slices_IndexFunc_122_L0_st p s).2 Kx Kr = slices_IndexFunc_122_L0_K (p.1) (p.2) s (fun s => again (slices_IndexFunc_122_L0_st p s).1 (slices_IndexFunc_122_L0_st p s).2) (fun t => Kx (slices_IndexFunc_122_L0_so p t).1 (slices_IndexFunc_122_L0_so p t).2) (fun k => Kr (slices_IndexFunc_122_L0_sr p k).1 (slices_IndexFunc_122_L0_sr p k).2) := by kernel_rfl
theorem slices_IndexFunc_122_L0_ok (hb : LoopsOk Try.prog rowU (envOf 196 1 [(122, impl_CanSeal_1_C)] [(0, slices_IndexFunc_122_L0_H)]) (loopAt (codeP 196) 0)) : LoopOk Try.prog rowU (envOf 196 1 [(122, impl_CanSeal_1_C)] [(0, slices_IndexFunc_122_L0_H)]) 0 (loopAt (codeP 196) 0) slices_IndexFunc_122_L0_H :=
  loopR_ok tagOk mixed envNl (envT (TabOk.cons impl_CanSeal_1_ok TabOk.nil)) hb slices_IndexFunc_122_L0_st slices_IndexFunc_122_L0_D_ok fun p s ρ A Kx Kr => (slices_IndexFunc_122_L0_nf p s ρ A Kx Kr).trans (slices_IndexFunc_122_L0_bind (p.1) (p.2) s _ _ _)
noncomputable def slices_IndexFunc_122_K (x0 : List GWord) {ρ : Type} (K : Int → Option ρ) : Option ρ :=
  Option.bind (runL (slices_IndexFunc_122_L0_step x0 (((x0.length : Nat) : Int))) 0) fun ot2 => sumK ot2
    (fun t2 => K (-1))
    (fun k3 => K k3)
noncomputable def slices_IndexFunc_122 (x0 : List GWord) : Option (Int) := slices_IndexFunc_122_K x0 some
theorem slices_IndexFunc_122_bind (x0 : List GWord) {ρ : Type} (K : Int → Option ρ) : slices_IndexFunc_122_K x0 K = (slices_IndexFunc_122 x0).bind K := by
  simp only [slices_IndexFunc_122, slices_IndexFunc_122_K, Option.bind_assoc, Option.bind_some, Option.bind_none, cond_bind, sumK_bind]
noncomputable def slices_IndexFunc_122_E : Env Row := envN false 196 1 [(122, impl_CanSeal_1_C)] [(0, slices_IndexFunc_122_L0_H)]
theorem slices_IndexFunc_122_nf (x0 : List GWord) (ρ : Type) (K : V → Heap Row → Option ρ) : evBody rowU slices_IndexFunc_122_E (bodyC 196) [.c (.sl 0 0), .c (.fn 122 [])] [⟨.row ⟨.word, x0⟩, 0, 1⟩] K = slices_IndexFunc_122_K x0 (fun r => K (.c (.int .i64 r)) [⟨.row ⟨.word, x0⟩, 0, 1⟩]) := by kernel_rfl
def slices_IndexFunc_122_D : List V → Heap Row → Option (List GWord)
  | [.c (.sl 0 0), .c (.fn 122 [])], [⟨.row ⟨.word, v1⟩, 0, 1⟩] => some (v1)
  | _, _ => none
theorem slices_IndexFunc_122_D_ok {vs : List V} {W : Heap Row} {a : List GWord} (h : slices_IndexFunc_122_D vs W = some a) : vs = [.c (.sl 0 0), .c (.fn 122 [])] ∧ W = [⟨.row ⟨.word, a⟩, 0, 1⟩] := by
  unfold slices_IndexFunc_122_D at h
  split at h
  · simp at h; subst h; exact ⟨rfl, rfl⟩
  · simp at h
noncomputable def slices_IndexFunc_122_C : Callee Row := ⟨[(false, 0)], fun _ vs W K => (slices_IndexFunc_122_D vs W).bind fun a => (slices_IndexFunc_122 a).bind fun r => K (.c (.int .i64 r)) [⟨.row ⟨.word, a⟩, 0, 1⟩]⟩
theorem slices_IndexFunc_122_ok : CalleeOk Try.prog rowU 196 slices_IndexFunc_122_C := by
  refine calleeP (nl := false) (m0 := 1) (T := [(122, impl_CanSeal_1_C)]) (H := [(0, slices_IndexFunc_122_L0_H)]) (TabOk.cons impl_CanSeal_1_ok TabOk.nil) (by kernel_rfl) (by kernel_rfl) (fun p hp hb => by
    simp only [List.mem_cons, List.not_mem_nil, or_false] at hp
    subst hp
    exact slices_IndexFunc_122_L0_ok hb) fun ρ vs W K r h => ?_
  obtain ⟨a, ha, h1⟩ := Option.bind_eq_some_iff.1 h
  clear h
  obtain ⟨rfl, rfl⟩ := slices_IndexFunc_122_D_ok ha
  obtain ⟨q, hq, h2⟩ := Option.bind_eq_some_iff.1 h1
  exact ⟨_, _, h2, (slices_IndexFunc_122_nf a _ _).trans ((slices_IndexFunc_122_bind a _).trans (by rw [hq]; rfl))⟩
/-! slices.ContainsFunc[[]loop.example/g00249/impl.Word,loop.example/g00249/impl.Word] -/
noncomputable def slices_ContainsFunc_122_K (x0 : List GWord) {ρ : Type} (K : Bool → Option ρ) : Option ρ :=
  Option.bind (slices_IndexFunc_122 x0) fun r1 =>
  K (decide (r1 ≥ 0))
noncomputable def slices_ContainsFunc_122 (x0 : List GWord) : Option (Bool) := slices_ContainsFunc_122_K x0 some
theorem slices_ContainsFunc_122_bind (x0 : List GWord) {ρ : Type} (K : Bool → Option ρ) : slices_ContainsFunc_122_K x0 K = (slices_ContainsFunc_122 x0).bind K := by
  simp only [slices_ContainsFunc_122, slices_ContainsFunc_122_K, Option.bind_assoc, Option.bind_some, Option.bind_none, cond_bind, sumK_bind]
noncomputable def slices_ContainsFunc_122_E : Env Row := envN false 113 1 [(196, slices_IndexFunc_122_C)] []
theorem slices_ContainsFunc_122_nf (x0 : List GWord) (ρ : Type) (K : V → Heap Row → Option ρ) : evBody rowU slices_ContainsFunc_122_E (bodyC 113) [.c (.sl 0 0), .c (.fn 122 [])] [⟨.row ⟨.word, x0⟩, 0, 1⟩] K = slices_ContainsFunc_122_K x0 (fun r => K (.c (.bool r)) [⟨.row ⟨.word, x0⟩, 0, 1⟩]) := by kernel_rfl
def slices_ContainsFunc_122_D : List V → Heap Row → Option (List GWord)
  | [.c (.sl 0 0), .c (.fn 122 [])], [⟨.row ⟨.word, v1⟩, 0, 1⟩] => some (v1)
  | _, _ => none
theorem slices_ContainsFunc_122_D_ok {vs : List V} {W : Heap Row} {a : List GWord} (h : slices_ContainsFunc_122_D vs W = some a) : vs = [.c (.sl 0 0), .c (.fn 122 [])] ∧ W = [⟨.row ⟨.word, a⟩, 0, 1⟩] := by
  unfold slices_ContainsFunc_122_D at h
  split at h
  · simp at h; subst h; exact ⟨rfl, rfl⟩
  · simp at h
noncomputable def slices_ContainsFunc_122_C : Callee Row := ⟨[(false, 0)], fun _ vs W K => (slices_ContainsFunc_122_D vs W).bind fun a => (slices_ContainsFunc_122 a).bind fun r => K (.c (.bool r)) [⟨.row ⟨.word, a⟩, 0, 1⟩]⟩
theorem slices_ContainsFunc_122_ok : CalleeOk Try.prog rowU 113 slices_ContainsFunc_122_C := by
  refine calleeP (nl := false) (m0 := 1) (T := [(196, slices_IndexFunc_122_C)]) (H := []) (TabOk.cons slices_IndexFunc_122_ok TabOk.nil) (by kernel_rfl) (by kernel_rfl) (fun p hp => nomatch hp) fun ρ vs W K r h => ?_
  obtain ⟨a, ha, h1⟩ := Option.bind_eq_some_iff.1 h
  clear h
  obtain ⟨rfl, rfl⟩ := slices_ContainsFunc_122_D_ok ha
  obtain ⟨q, hq, h2⟩ := Option.bind_eq_some_iff.1 h1
  exact ⟨_, _, h2, (slices_ContainsFunc_122_nf a _ _).trans ((slices_ContainsFunc_122_bind a _).trans (by rw [hq]; rfl))⟩
/-! loop.example/g00249/impl.CanSeal -/
noncomputable def impl_CanSeal_K (x0 : GMemory) (x1 : List GWord) {ρ : Type} (K : Bool → Option ρ) : Option ρ :=
  Option.bind (impl_Closure x0 x1) fun r1 =>
  Option.bind (slices_ContainsFunc_122 r1) fun r2 =>
  K r2
noncomputable def impl_CanSeal (x0 : GMemory) (x1 : List GWord) : Option (Bool) := impl_CanSeal_K x0 x1 some
theorem impl_CanSeal_bind (x0 : GMemory) (x1 : List GWord) {ρ : Type} (K : Bool → Option ρ) : impl_CanSeal_K x0 x1 K = (impl_CanSeal x0 x1).bind K := by
  simp only [impl_CanSeal, impl_CanSeal_K, Option.bind_assoc, Option.bind_some, Option.bind_none, cond_bind, sumK_bind]
noncomputable def impl_CanSeal_E : Env Row := envN false 29 3 [(18, impl_Closure_C), (113, slices_ContainsFunc_122_C)] []
theorem impl_CanSeal_nf (x0 : GMemory) (x1 : List GWord) (ρ : Type) (K : V → Heap Row → Option ρ) : evBody rowU impl_CanSeal_E (bodyC 29) [.a [.sl 0 0, .sl 1 0], .c (.sl 2 0)] [⟨.row ⟨.word, x0.words⟩, 0, 1⟩, ⟨.row ⟨.bool, x0.gone⟩, 0, 1⟩, ⟨.row ⟨.word, x1⟩, 0, 1⟩] K = impl_CanSeal_K x0 x1 (fun r => K (.c (.bool r)) [⟨.row ⟨.word, x0.words⟩, 0, 1⟩, ⟨.row ⟨.bool, x0.gone⟩, 0, 1⟩, ⟨.row ⟨.word, x1⟩, 0, 1⟩]) := by kernel_rfl
def impl_CanSeal_D : List V → Heap Row → Option (GMemory × List GWord)
  | [.a (.sl 0 0 :: .sl 1 0 :: []), .c (.sl 2 0)], [⟨.row ⟨.word, v1⟩, 0, 1⟩, ⟨.row ⟨.bool, v2⟩, 0, 1⟩, ⟨.row ⟨.word, v3⟩, 0, 1⟩] => some (⟨v1, v2⟩, v3)
  | _, _ => none
theorem impl_CanSeal_D_ok {vs : List V} {W : Heap Row} {a : GMemory × List GWord} (h : impl_CanSeal_D vs W = some a) : vs = [.a [.sl 0 0, .sl 1 0], .c (.sl 2 0)] ∧ W = [⟨.row ⟨.word, (a.1).words⟩, 0, 1⟩, ⟨.row ⟨.bool, (a.1).gone⟩, 0, 1⟩, ⟨.row ⟨.word, a.2⟩, 0, 1⟩] := by
  unfold impl_CanSeal_D at h
  split at h
  · simp at h; subst h; exact ⟨rfl, rfl⟩
  · simp at h
noncomputable def impl_CanSeal_C : Callee Row := ⟨[(false, 0), (false, 0), (false, 0)], fun _ vs W K => (impl_CanSeal_D vs W).bind fun a => (impl_CanSeal a.1 a.2).bind fun r => K (.c (.bool r)) [⟨.row ⟨.word, (a.1).words⟩, 0, 1⟩, ⟨.row ⟨.bool, (a.1).gone⟩, 0, 1⟩, ⟨.row ⟨.word, a.2⟩, 0, 1⟩]⟩
theorem impl_CanSeal_ok : CalleeOk Try.prog rowU 29 impl_CanSeal_C := by
  refine calleeP (nl := false) (m0 := 3) (T := [(18, impl_Closure_C), (113, slices_ContainsFunc_122_C)]) (H := []) (TabOk.cons impl_Closure_ok (TabOk.cons slices_ContainsFunc_122_ok TabOk.nil)) (by kernel_rfl) (by kernel_rfl) (fun p hp => nomatch hp) fun ρ vs W K r h => ?_
  obtain ⟨a, ha, h1⟩ := Option.bind_eq_some_iff.1 h
  clear h
  obtain ⟨rfl, rfl⟩ := impl_CanSeal_D_ok ha
  obtain ⟨q, hq, h2⟩ := Option.bind_eq_some_iff.1 h1
  exact ⟨_, _, h2, (impl_CanSeal_nf (a.1) (a.2) _ _).trans ((impl_CanSeal_bind (a.1) (a.2) _).trans (by rw [hq]; rfl))⟩
/-! loop.example/g00249/spec.CanSeal -/
noncomputable def spec_CanSeal_L0_K (l0 : List GWord) (l1 : List Bool) (l2 : List GWord) (l3 : List GWord) (n4 : Int) {ρ : Type} (A : Int → Option ρ) (X : Unit → Option ρ) (R : Unit → Option ρ) : Option ρ :=
  cond (decide (n4 < (((l3.length : Nat) : Int))))
    (cond (decide (0 ≤ n4)) (cond (decide (n4 < (((l3.length : Nat) : Int)))) (cond ((bits .and .i64 (List.getD l3 (n4.toNat) (default)).key.perms 32) != 0)
      (R ())
      (A (w64 (n4 + 1)))) none) none)
    (X ())
noncomputable def spec_CanSeal_L0_step (l0 : List GWord) (l1 : List Bool) (l2 : List GWord) (l3 : List GWord) (s : Int) : Option (Rnd (Int) (Unit) (Unit)) := spec_CanSeal_L0_K l0 l1 l2 l3 s (fun s => some (.again s)) (fun t => some (.exit t)) (fun k => some (.ret k))
theorem spec_CanSeal_L0_bind (l0 : List GWord) (l1 : List Bool) (l2 : List GWord) (l3 : List GWord) (s : Int) {ρ : Type} (A : Int → Option ρ) (X : Unit → Option ρ) (R : Unit → Option ρ) : spec_CanSeal_L0_K l0 l1 l2 l3 s A X R = (spec_CanSeal_L0_step l0 l1 l2 l3 s).bind (rndE A X R) := by
  simp only [spec_CanSeal_L0_step, spec_CanSeal_L0_K, Option.bind_assoc, Option.bind_some, Option.bind_none, cond_bind, sumK_bind, rndE_again, rndE_exit, rndE_ret]
def spec_CanSeal_L0_st (p : List GWord × List Bool × List GWord × List GWord) (s : Int) : List V × Heap Row := ([.c (.sl 3 0), .c (.int .i64 (s))], [⟨.row ⟨.word, p.1⟩, 0, 1⟩, ⟨.row ⟨.bool, p.2.1⟩, 0, 1⟩, ⟨.row ⟨.word, p.2.2.1⟩, 0, 1⟩, ⟨.row ⟨.word, p.2.2.2⟩, 0, 2⟩])
def spec_CanSeal_L0_so (p : List GWord × List Bool × List GWord × List GWord) (t : Unit) : List V × Heap Row := ([], [⟨.row ⟨.word, p.1⟩, 0, 1⟩, ⟨.row ⟨.bool, p.2.1⟩, 0, 1⟩, ⟨.row ⟨.word, p.2.2.1⟩, 0, 1⟩])
def spec_CanSeal_L0_sr (p : List GWord × List Bool × List GWord × List GWord) (k : Unit) : List V × Heap Row := ([.c (.bool true)], [⟨.row ⟨.word, p.1⟩, 0, 1⟩, ⟨.row ⟨.bool, p.2.1⟩, 0, 1⟩, ⟨.row ⟨.word, p.2.2.1⟩, 0, 1⟩])
def spec_CanSeal_L0_D : List V → Heap Row → Option ((List GWord × List Bool × List GWord × List GWord) × (Int))
  | [.c (.sl 3 0), .c (.int .i64 v1)], [⟨.row ⟨.word, v2⟩, 0, 1⟩, ⟨.row ⟨.bool, v3⟩, 0, 1⟩, ⟨.row ⟨.word, v4⟩, 0, 1⟩, ⟨.row ⟨.word, v5⟩, 0, 2⟩] => some ((v2, v3, v4, v5), (v1))
  | _, _ => none
theorem spec_CanSeal_L0_D_ok (vs : List V) (L : Heap Row) (p : List GWord × List Bool × List GWord × List GWord) (s : Int) (h : spec_CanSeal_L0_D vs L = some (p, s)) : spec_CanSeal_L0_st p s = (vs, L) := by
  unfold spec_CanSeal_L0_D at h
  split at h
  · simp at h; obtain ⟨rfl, rfl⟩ := h; rfl
  · simp at h
noncomputable def spec_CanSeal_L0_H : LoopH Row := loopR [5, 6] [] spec_CanSeal_L0_D (fun p => spec_CanSeal_L0_step (p.1) (p.2.1) (p.2.2.1) (p.2.2.2)) spec_CanSeal_L0_so spec_CanSeal_L0_sr
theorem spec_CanSeal_L0_nf (p : List GWord × List Bool × List GWord × List GWord) (s : Int) (ρ : Type) (again Kx Kr : List V → Heap Row → Option ρ) : evRound rowU (envOf 30 3 [(23, spec_Closure_C)] [(0, spec_CanSeal_L0_H)]) 0 spec_CanSeal_L0_H (loopC 30 0) again (spec_CanSeal_L0_st p s).1 (spec_CanSeal_L0_st p s).2 Kx Kr = spec_CanSeal_L0_K (p.1) (p.2.1) (p.2.2.1) (p.2.2.2) s (fun s => again (spec_CanSeal_L0_st p s).1 (spec_CanSeal_L0_st p s).2) (fun t => Kx (spec_CanSeal_L0_so p t).1 (spec_CanSeal_L0_so p t).2) (fun k => Kr (spec_CanSeal_L0_sr p k).1 (spec_CanSeal_L0_sr p k).2) := by kernel_rfl
theorem spec_CanSeal_L0_ok (hb : LoopsOk Try.prog rowU (envOf 30 3 [(23, spec_Closure_C)] [(0, spec_CanSeal_L0_H)]) (loopAt (codeP 30) 0)) : LoopOk Try.prog rowU (envOf 30 3 [(23, spec_Closure_C)] [(0, spec_CanSeal_L0_H)]) 0 (loopAt (codeP 30) 0) spec_CanSeal_L0_H :=
  loopR_ok tagOk mixed envNl (envT (TabOk.cons spec_Closure_ok TabOk.nil)) hb spec_CanSeal_L0_st spec_CanSeal_L0_D_ok fun p s ρ A Kx Kr => (spec_CanSeal_L0_nf p s ρ A Kx Kr).trans (spec_CanSeal_L0_bind (p.1) (p.2.1) (p.2.2.1) (p.2.2.2) s _ _ _)
noncomputable def spec_CanSeal_K (x0 : GMemory) (x1 : List GWord) {ρ : Type} (K : Bool → Option ρ) : Option ρ :=
  Option.bind (spec_Closure x0 x1) fun r1 =>
  Option.bind (runL (spec_CanSeal_L0_step x0.words x0.gone x1 r1) 0) fun ot2 => sumK ot2
    (fun t2 => K false)
    (fun k3 => K true)
noncomputable def spec_CanSeal (x0 : GMemory) (x1 : List GWord) : Option (Bool) := spec_CanSeal_K x0 x1 some
theorem spec_CanSeal_bind (x0 : GMemory) (x1 : List GWord) {ρ : Type} (K : Bool → Option ρ) : spec_CanSeal_K x0 x1 K = (spec_CanSeal x0 x1).bind K := by
  simp only [spec_CanSeal, spec_CanSeal_K, Option.bind_assoc, Option.bind_some, Option.bind_none, cond_bind, sumK_bind]
noncomputable def spec_CanSeal_E : Env Row := envN false 30 3 [(23, spec_Closure_C)] [(0, spec_CanSeal_L0_H)]
theorem spec_CanSeal_nf (x0 : GMemory) (x1 : List GWord) (ρ : Type) (K : V → Heap Row → Option ρ) : evBody rowU spec_CanSeal_E (bodyC 30) [.a [.sl 0 0, .sl 1 0], .c (.sl 2 0)] [⟨.row ⟨.word, x0.words⟩, 0, 1⟩, ⟨.row ⟨.bool, x0.gone⟩, 0, 1⟩, ⟨.row ⟨.word, x1⟩, 0, 1⟩] K = spec_CanSeal_K x0 x1 (fun r => K (.c (.bool r)) [⟨.row ⟨.word, x0.words⟩, 0, 1⟩, ⟨.row ⟨.bool, x0.gone⟩, 0, 1⟩, ⟨.row ⟨.word, x1⟩, 0, 1⟩]) := by kernel_rfl
def spec_CanSeal_D : List V → Heap Row → Option (GMemory × List GWord)
  | [.a (.sl 0 0 :: .sl 1 0 :: []), .c (.sl 2 0)], [⟨.row ⟨.word, v1⟩, 0, 1⟩, ⟨.row ⟨.bool, v2⟩, 0, 1⟩, ⟨.row ⟨.word, v3⟩, 0, 1⟩] => some (⟨v1, v2⟩, v3)
  | _, _ => none
theorem spec_CanSeal_D_ok {vs : List V} {W : Heap Row} {a : GMemory × List GWord} (h : spec_CanSeal_D vs W = some a) : vs = [.a [.sl 0 0, .sl 1 0], .c (.sl 2 0)] ∧ W = [⟨.row ⟨.word, (a.1).words⟩, 0, 1⟩, ⟨.row ⟨.bool, (a.1).gone⟩, 0, 1⟩, ⟨.row ⟨.word, a.2⟩, 0, 1⟩] := by
  unfold spec_CanSeal_D at h
  split at h
  · simp at h; subst h; exact ⟨rfl, rfl⟩
  · simp at h
noncomputable def spec_CanSeal_C : Callee Row := ⟨[(false, 0), (false, 0), (false, 0)], fun _ vs W K => (spec_CanSeal_D vs W).bind fun a => (spec_CanSeal a.1 a.2).bind fun r => K (.c (.bool r)) [⟨.row ⟨.word, (a.1).words⟩, 0, 1⟩, ⟨.row ⟨.bool, (a.1).gone⟩, 0, 1⟩, ⟨.row ⟨.word, a.2⟩, 0, 1⟩]⟩
theorem spec_CanSeal_ok : CalleeOk Try.prog rowU 30 spec_CanSeal_C := by
  refine calleeP (nl := false) (m0 := 3) (T := [(23, spec_Closure_C)]) (H := [(0, spec_CanSeal_L0_H)]) (TabOk.cons spec_Closure_ok TabOk.nil) (by kernel_rfl) (by kernel_rfl) (fun p hp hb => by
    simp only [List.mem_cons, List.not_mem_nil, or_false] at hp
    subst hp
    exact spec_CanSeal_L0_ok hb) fun ρ vs W K r h => ?_
  obtain ⟨a, ha, h1⟩ := Option.bind_eq_some_iff.1 h
  clear h
  obtain ⟨rfl, rfl⟩ := spec_CanSeal_D_ok ha
  obtain ⟨q, hq, h2⟩ := Option.bind_eq_some_iff.1 h1
  exact ⟨_, _, h2, (spec_CanSeal_nf (a.1) (a.2) _ _).trans ((spec_CanSeal_bind (a.1) (a.2) _).trans (by rw [hq]; rfl))⟩
/-! loop.example/g00249/impl.Covers -/
noncomputable def impl_Covers_K (x0 : GKey) (x1 : GKey) {ρ : Type} (K : Bool → Option ρ) : Option ρ :=
  Option.bind (impl_KeyOk x0) fun r1 =>
  cond (r1 == true)
    (Option.bind (impl_KeyOk x1) fun r2 =>
    cond (r2 == true)
      (cond ((decide (x0.base ≤ x1.base)) == true)
        (cond ((decide (x1.top ≤ x0.top)) == true)
          (K ((bits .andNot .i64 x1.perms x0.perms) == 0))
          (K false))
        (K false))
      (K false))
    (K false)
noncomputable def impl_Covers (x0 : GKey) (x1 : GKey) : Option (Bool) := impl_Covers_K x0 x1 some
theorem impl_Covers_bind (x0 : GKey) (x1 : GKey) {ρ : Type} (K : Bool → Option ρ) : impl_Covers_K x0 x1 K = (impl_Covers x0 x1).bind K := by
  simp only [impl_Covers, impl_Covers_K, Option.bind_assoc, Option.bind_some, Option.bind_none, cond_bind, sumK_bind]
noncomputable def impl_Covers_E : Env Row := envN false 128 0 [(126, impl_KeyOk_C)] []
theorem impl_Covers_nf (x0 : GKey) (x1 : GKey) (ρ : Type) (K : V → Heap Row → Option ρ) : evBody rowU impl_Covers_E (bodyC 128) [.a [.int .i64 x0.base, .int .i64 x0.top, .int .i64 x0.perms, .int .i64 x0.seal_], .a [.int .i64 x1.base, .int .i64 x1.top, .int .i64 x1.perms, .int .i64 x1.seal_]] [] K = impl_Covers_K x0 x1 (fun r => K (.c (.bool r)) []) := by kernel_rfl
def impl_Covers_D : List V → Heap Row → Option (GKey × GKey)
  | [.a (.int .i64 v1 :: .int .i64 v2 :: .int .i64 v3 :: .int .i64 v4 :: []), .a (.int .i64 v5 :: .int .i64 v6 :: .int .i64 v7 :: .int .i64 v8 :: [])], [] => some (⟨v1, v2, v3, v4⟩, ⟨v5, v6, v7, v8⟩)
  | _, _ => none
theorem impl_Covers_D_ok {vs : List V} {W : Heap Row} {a : GKey × GKey} (h : impl_Covers_D vs W = some a) : vs = [.a [.int .i64 (a.1).base, .int .i64 (a.1).top, .int .i64 (a.1).perms, .int .i64 (a.1).seal_], .a [.int .i64 (a.2).base, .int .i64 (a.2).top, .int .i64 (a.2).perms, .int .i64 (a.2).seal_]] ∧ W = [] := by
  unfold impl_Covers_D at h
  split at h
  · simp at h; subst h; exact ⟨rfl, rfl⟩
  · simp at h
noncomputable def impl_Covers_C : Callee Row := ⟨[], fun _ vs W K => (impl_Covers_D vs W).bind fun a => (impl_Covers a.1 a.2).bind fun r => K (.c (.bool r)) []⟩
theorem impl_Covers_ok : CalleeOk Try.prog rowU 128 impl_Covers_C := by
  refine calleeP (nl := false) (m0 := 0) (T := [(126, impl_KeyOk_C)]) (H := []) (TabOk.cons impl_KeyOk_ok TabOk.nil) (by kernel_rfl) (by kernel_rfl) (fun p hp => nomatch hp) fun ρ vs W K r h => ?_
  obtain ⟨a, ha, h1⟩ := Option.bind_eq_some_iff.1 h
  clear h
  obtain ⟨rfl, rfl⟩ := impl_Covers_D_ok ha
  obtain ⟨q, hq, h2⟩ := Option.bind_eq_some_iff.1 h1
  exact ⟨_, _, h2, (impl_Covers_nf (a.1) (a.2) _ _).trans ((impl_Covers_bind (a.1) (a.2) _).trans (by rw [hq]; rfl))⟩
/-! loop.example/g00249/impl.Unders$1 -/
noncomputable def impl_Unders_1_K (x0 : GWord) (f0_0 : Int) (f0_1 : Bool) (f0_2 : Int) (f0_3 : Int) (f0_4 : Int) (f0_5 : Int) {ρ : Type} (K : Bool → Option ρ) : Option ρ :=
  cond (x0.is == true)
    (Option.bind (impl_Covers x0.key (⟨f0_2, f0_3, f0_4, f0_5⟩ : GKey)) fun r1 =>
    K r1)
    (K false)
noncomputable def impl_Unders_1 (x0 : GWord) (f0_0 : Int) (f0_1 : Bool) (f0_2 : Int) (f0_3 : Int) (f0_4 : Int) (f0_5 : Int) : Option (Bool) := impl_Unders_1_K x0 f0_0 f0_1 f0_2 f0_3 f0_4 f0_5 some
theorem impl_Unders_1_bind (x0 : GWord) (f0_0 : Int) (f0_1 : Bool) (f0_2 : Int) (f0_3 : Int) (f0_4 : Int) (f0_5 : Int) {ρ : Type} (K : Bool → Option ρ) : impl_Unders_1_K x0 f0_0 f0_1 f0_2 f0_3 f0_4 f0_5 K = (impl_Unders_1 x0 f0_0 f0_1 f0_2 f0_3 f0_4 f0_5).bind K := by
  simp only [impl_Unders_1, impl_Unders_1_K, Option.bind_assoc, Option.bind_some, Option.bind_none, cond_bind, sumK_bind]
noncomputable def impl_Unders_1_E : Env Row := envN false 127 1 [(128, impl_Covers_C)] []
theorem impl_Unders_1_nf (x0 : GWord) (f0_0 : Int) (f0_1 : Bool) (f0_2 : Int) (f0_3 : Int) (f0_4 : Int) (f0_5 : Int) (ρ : Type) (K : V → Heap Row → Option ρ) : evBody rowU impl_Unders_1_E (bodyC 127) [.a [.int .i64 x0.n, .bool x0.is, .int .i64 x0.key.base, .int .i64 x0.key.top, .int .i64 x0.key.perms, .int .i64 x0.key.seal_], .c (.ptr 0 0)] [⟨.box [.int .i64 f0_0, .bool f0_1, .int .i64 f0_2, .int .i64 f0_3, .int .i64 f0_4, .int .i64 f0_5], 0, 1⟩] K = impl_Unders_1_K x0 f0_0 f0_1 f0_2 f0_3 f0_4 f0_5 (fun r => K (.c (.bool r)) [⟨.box [.int .i64 f0_0, .bool f0_1, .int .i64 f0_2, .int .i64 f0_3, .int .i64 f0_4, .int .i64 f0_5], 0, 1⟩]) := by kernel_rfl
def impl_Unders_1_D : List V → Heap Row → Option (GWord × Int × Bool × Int × Int × Int × Int)
  | [.a (.int .i64 v1 :: .bool v2 :: .int .i64 v3 :: .int .i64 v4 :: .int .i64 v5 :: .int .i64 v6 :: []), .c (.ptr 0 0)], [⟨.box [.int .i64 v7, .bool v8, .int .i64 v9, .int .i64 v10, .int .i64 v11, .int .i64 v12], 0, 1⟩] => some (⟨v1, v2, ⟨v3, v4, v5, v6⟩⟩, v7, v8, v9, v10, v11, v12)
  | _, _ => none
theorem impl_Unders_1_D_ok {vs : List V} {W : Heap Row} {a : GWord × Int × Bool × Int × Int × Int × Int} (h : impl_Unders_1_D vs W = some a) : vs = [.a [.int .i64 (a.1).n, .bool (a.1).is, .int .i64 (a.1).key.base, .int .i64 (a.1).key.top, .int .i64 (a.1).key.perms, .int .i64 (a.1).key.seal_], .c (.ptr 0 0)] ∧ W = [⟨.box [.int .i64 (a.2.1), .bool (a.2.2.1), .int .i64 (a.2.2.2.1), .int .i64 (a.2.2.2.2.1), .int .i64 (a.2.2.2.2.2.1), .int .i64 (a.2.2.2.2.2.2)], 0, 1⟩] := by
  unfold impl_Unders_1_D at h
  split at h
  · simp at h; subst h; exact ⟨rfl, rfl⟩
  · simp at h
noncomputable def impl_Unders_1_C : Callee Row := ⟨[(false, 6)], fun _ vs W K => (impl_Unders_1_D vs W).bind fun a => (impl_Unders_1 a.1 a.2.1 a.2.2.1 a.2.2.2.1 a.2.2.2.2.1 a.2.2.2.2.2.1 a.2.2.2.2.2.2).bind fun r => K (.c (.bool r)) [⟨.box [.int .i64 (a.2.1), .bool (a.2.2.1), .int .i64 (a.2.2.2.1), .int .i64 (a.2.2.2.2.1), .int .i64 (a.2.2.2.2.2.1), .int .i64 (a.2.2.2.2.2.2)], 0, 1⟩]⟩
theorem impl_Unders_1_ok : CalleeOk Try.prog rowU 127 impl_Unders_1_C := by
  refine calleeP (nl := false) (m0 := 1) (T := [(128, impl_Covers_C)]) (H := []) (TabOk.cons impl_Covers_ok TabOk.nil) (by kernel_rfl) (by kernel_rfl) (fun p hp => nomatch hp) fun ρ vs W K r h => ?_
  obtain ⟨a, ha, h1⟩ := Option.bind_eq_some_iff.1 h
  clear h
  obtain ⟨rfl, rfl⟩ := impl_Unders_1_D_ok ha
  obtain ⟨q, hq, h2⟩ := Option.bind_eq_some_iff.1 h1
  exact ⟨_, _, h2, (impl_Unders_1_nf (a.1) (a.2.1) (a.2.2.1) (a.2.2.2.1) (a.2.2.2.2.1) (a.2.2.2.2.2.1) (a.2.2.2.2.2.2) _ _).trans ((impl_Unders_1_bind (a.1) (a.2.1) (a.2.2.1) (a.2.2.2.1) (a.2.2.2.2.1) (a.2.2.2.2.2.1) (a.2.2.2.2.2.2) _).trans (by rw [hq]; rfl))⟩
end Go.Eng
