/- Functions of the program, as the evaluator tells them: printed by a program of ours. -/
import Derived.Test.YtkgeojjgcffebaaOnlyLiveFS
import Derived.Test.YtkgeojjgcffebaaOnlyLiveF0
set_option linter.unusedVariables false
set_option linter.unusedSimpArgs false
set_option maxRecDepth 20000
namespace Go.Eng
open Go.Proofs
/-! loop.example/g00249/spec.Grant -/
noncomputable def spec_Grant_L0_K (l0 : List GWord) (l1 : List Bool) (l2 : List GSpan) (l3 : List GSpan) (l10 : List Int) (l11 : List GWord) (l12 : List Bool) (l13 : List GSpan) (l14 : List GSpan) (n15 : Int) (n16 : Int) (n17 : Int) {ρ : Type} (A : Int × Int → Option ρ) (X : Unit → Option ρ) (R : Int × Bool × Int × Int × Int × Int × List GSpan → Option ρ) : Option ρ :=
  cond (decide (n17 < 24))
    (cond (decide (0 ≤ n17)) (cond (decide (n17 < (((l10.length : Nat) : Int)))) (cond (decide ((List.getD l10 (n17.toNat) 0) > 0))
      (A (0, w64 (n17 + 1)))
      (cond ((w64 (n16 + 1)) == n15)
        (Option.bind (spec_l23Put l13 (⟨w64 ((w64 (n17 - n15)) + 1), n15⟩ : GSpan)) fun r5 =>
        Option.bind (spec_KeyWord (⟨w64 ((w64 (n17 - n15)) + 1), w64 ((w64 ((w64 (n17 - n15)) + 1)) + n15), 27, 0⟩ : GKey) 0) fun r6 =>
        R (r6.n, r6.is, r6.key.base, r6.key.top, r6.key.perms, r6.key.seal_, r5))
        (A (w64 (n16 + 1), w64 (n17 + 1))))) none) none)
    (X ())
noncomputable def spec_Grant_L0_step (l0 : List GWord) (l1 : List Bool) (l2 : List GSpan) (l3 : List GSpan) (l10 : List Int) (l11 : List GWord) (l12 : List Bool) (l13 : List GSpan) (l14 : List GSpan) (n15 : Int) (s : Int × Int) : Option (Rnd (Int × Int) (Unit) (Int × Bool × Int × Int × Int × Int × List GSpan)) := spec_Grant_L0_K l0 l1 l2 l3 l10 l11 l12 l13 l14 n15 (s.1) (s.2) (fun s => some (.again s)) (fun t => some (.exit t)) (fun k => some (.ret k))
theorem spec_Grant_L0_bind (l0 : List GWord) (l1 : List Bool) (l2 : List GSpan) (l3 : List GSpan) (l10 : List Int) (l11 : List GWord) (l12 : List Bool) (l13 : List GSpan) (l14 : List GSpan) (n15 : Int) (s : Int × Int) {ρ : Type} (A : Int × Int → Option ρ) (X : Unit → Option ρ) (R : Int × Bool × Int × Int × Int × Int × List GSpan → Option ρ) : spec_Grant_L0_K l0 l1 l2 l3 l10 l11 l12 l13 l14 n15 (s.1) (s.2) A X R = (spec_Grant_L0_step l0 l1 l2 l3 l10 l11 l12 l13 l14 n15 s).bind (rndE A X R) := by
  simp only [spec_Grant_L0_step, spec_Grant_L0_K, Option.bind_assoc, Option.bind_some, Option.bind_none, cond_bind, sumK_bind, rndE_again, rndE_exit, rndE_ret]
def spec_Grant_L0_st (p : List GWord × List Bool × List GSpan × List GSpan × List Int × List GWord × List Bool × List GSpan × List GSpan × Int) (s : Int × Int) : List V × Heap Row := ([.c (.int .i64 (p.2.2.2.2.2.2.2.2.2)), .c (.ptr 4 0), .c (.ptr 5 0), .c (.ptr 6 0), .c (.sl 7 0), .c (.int .i64 (s.1)), .c (.int .i64 (s.2))], [⟨.row ⟨.word, p.1⟩, 0, 1⟩, ⟨.row ⟨.bool, p.2.1⟩, 0, 1⟩, ⟨.row ⟨.span, p.2.2.1⟩, 0, 1⟩, ⟨.row ⟨.span, p.2.2.2.1⟩, 0, 1⟩, ⟨.box [.nils 3, .nils 1, .nils 4, .nils 4], 0, 2⟩, ⟨.box [.int .i64 0, .bool false, .int .i64 0, .int .i64 0, .int .i64 0, .int .i64 0], 0, 2⟩, ⟨.box [.sl 8 0, .sl 9 0, .sl 10 0, .sl 11 0], 0, 2⟩, ⟨.row ⟨.int, p.2.2.2.2.1⟩, 0, 2⟩, ⟨.row ⟨.word, p.2.2.2.2.2.1⟩, 0, 2⟩, ⟨.row ⟨.bool, p.2.2.2.2.2.2.1⟩, 0, 2⟩, ⟨.row ⟨.span, p.2.2.2.2.2.2.2.1⟩, 0, 2⟩, ⟨.row ⟨.span, p.2.2.2.2.2.2.2.2.1⟩, 0, 2⟩])
def spec_Grant_L0_so (p : List GWord × List Bool × List GSpan × List GSpan × List Int × List GWord × List Bool × List GSpan × List GSpan × Int) (t : Unit) : List V × Heap Row := ([.c (.ptr 4 0), .c (.ptr 5 0), .c (.ptr 6 0)], [⟨.row ⟨.word, p.1⟩, 0, 1⟩, ⟨.row ⟨.bool, p.2.1⟩, 0, 1⟩, ⟨.row ⟨.span, p.2.2.1⟩, 0, 1⟩, ⟨.row ⟨.span, p.2.2.2.1⟩, 0, 1⟩, ⟨.box [.nils 3, .nils 1, .nils 4, .nils 4], 0, 2⟩, ⟨.box [.int .i64 0, .bool false, .int .i64 0, .int .i64 0, .int .i64 0, .int .i64 0], 0, 2⟩, ⟨.box [.sl 7 0, .sl 8 0, .sl 9 0, .sl 10 0], 0, 2⟩, ⟨.row ⟨.word, p.2.2.2.2.2.1⟩, 0, 2⟩, ⟨.row ⟨.bool, p.2.2.2.2.2.2.1⟩, 0, 2⟩, ⟨.row ⟨.span, p.2.2.2.2.2.2.2.1⟩, 0, 2⟩, ⟨.row ⟨.span, p.2.2.2.2.2.2.2.2.1⟩, 0, 2⟩])
def spec_Grant_L0_sr (p : List GWord × List Bool × List GSpan × List GSpan × List Int × List GWord × List Bool × List GSpan × List GSpan × Int) (k : Int × Bool × Int × Int × Int × Int × List GSpan) : List V × Heap Row := ([.c (.ptr 4 0), .c (.ptr 5 0), .c (.bool true)], [⟨.row ⟨.word, p.1⟩, 0, 1⟩, ⟨.row ⟨.bool, p.2.1⟩, 0, 1⟩, ⟨.row ⟨.span, p.2.2.1⟩, 0, 1⟩, ⟨.row ⟨.span, p.2.2.2.1⟩, 0, 1⟩, ⟨.box [.sl 6 0, .sl 7 0, .sl 8 0, .sl 9 0], 0, 2⟩, ⟨.box [.int .i64 (k).1, .bool (k).2.1, .int .i64 (k).2.2.1, .int .i64 (k).2.2.2.1, .int .i64 (k).2.2.2.2.1, .int .i64 (k).2.2.2.2.2.1], 0, 2⟩, ⟨.row ⟨.word, p.2.2.2.2.2.1⟩, 0, 2⟩, ⟨.row ⟨.bool, p.2.2.2.2.2.2.1⟩, 0, 2⟩, ⟨.row ⟨.span, (k).2.2.2.2.2.2⟩, 0, 2⟩, ⟨.row ⟨.span, p.2.2.2.2.2.2.2.2.1⟩, 0, 2⟩])
def spec_Grant_L0_D : List V → Heap Row → Option ((List GWord × List Bool × List GSpan × List GSpan × List Int × List GWord × List Bool × List GSpan × List GSpan × Int) × (Int × Int))
  | [.c (.int .i64 v1), .c (.ptr 4 0), .c (.ptr 5 0), .c (.ptr 6 0), .c (.sl 7 0), .c (.int .i64 v2), .c (.int .i64 v3)], [⟨.row ⟨.word, v4⟩, 0, 1⟩, ⟨.row ⟨.bool, v5⟩, 0, 1⟩, ⟨.row ⟨.span, v6⟩, 0, 1⟩, ⟨.row ⟨.span, v7⟩, 0, 1⟩, ⟨.box [.nils 3, .nils 1, .nils 4, .nils 4], 0, 2⟩, ⟨.box [.int .i64 0, .bool false, .int .i64 0, .int .i64 0, .int .i64 0, .int .i64 0], 0, 2⟩, ⟨.box [.sl 8 0, .sl 9 0, .sl 10 0, .sl 11 0], 0, 2⟩, ⟨.row ⟨.int, v8⟩, 0, 2⟩, ⟨.row ⟨.word, v9⟩, 0, 2⟩, ⟨.row ⟨.bool, v10⟩, 0, 2⟩, ⟨.row ⟨.span, v11⟩, 0, 2⟩, ⟨.row ⟨.span, v12⟩, 0, 2⟩] => some ((v4, v5, v6, v7, v8, v9, v10, v11, v12, v1), (v2, v3))
  | _, _ => none
theorem spec_Grant_L0_D_ok (vs : List V) (L : Heap Row) (p : List GWord × List Bool × List GSpan × List GSpan × List Int × List GWord × List Bool × List GSpan × List GSpan × Int) (s : Int × Int) (h : spec_Grant_L0_D vs L = some (p, s)) : spec_Grant_L0_st p s = (vs, L) := by
  unfold spec_Grant_L0_D at h
  split at h
  · simp at h; obtain ⟨rfl, rfl⟩ := h; rfl
  · simp at h
noncomputable def spec_Grant_L0_H : LoopH Row := loopR [1, 4, 5, 7, 8, 9, 10] [4, 5, 7] spec_Grant_L0_D (fun p => spec_Grant_L0_step (p.1) (p.2.1) (p.2.2.1) (p.2.2.2.1) (p.2.2.2.2.1) (p.2.2.2.2.2.1) (p.2.2.2.2.2.2.1) (p.2.2.2.2.2.2.2.1) (p.2.2.2.2.2.2.2.2.1) (p.2.2.2.2.2.2.2.2.2)) spec_Grant_L0_so spec_Grant_L0_sr
theorem spec_Grant_L0_nf (p : List GWord × List Bool × List GSpan × List GSpan × List Int × List GWord × List Bool × List GSpan × List GSpan × Int) (s : Int × Int) (ρ : Type) (again Kx Kr : List V → Heap Row → Option ρ) : evRound rowU (envOf 86 4 [(168, spec_l23Copy_C), (160, spec_l1In_C), (131, spec_l23Owners_C), (132, spec_HeapOk_C), (169, spec_l23Put_C), (179, spec_KeyWord_C)] [(0, spec_Grant_L0_H)]) 0 spec_Grant_L0_H (loopC 86 0) again (spec_Grant_L0_st p s).1 (spec_Grant_L0_st p s).2 Kx Kr = spec_Grant_L0_K (p.1) (p.2.1) (p.2.2.1) (p.2.2.2.1) (p.2.2.2.2.1) (p.2.2.2.2.2.1) (p.2.2.2.2.2.2.1) (p.2.2.2.2.2.2.2.1) (p.2.2.2.2.2.2.2.2.1) (p.2.2.2.2.2.2.2.2.2) (s.1) (s.2) (fun s => again (spec_Grant_L0_st p s).1 (spec_Grant_L0_st p s).2) (fun t => Kx (spec_Grant_L0_so p t).1 (spec_Grant_L0_so p t).2) (fun k => Kr (spec_Grant_L0_sr p k).1 (spec_Grant_L0_sr p k).2) := by kernel_rfl
theorem spec_Grant_L0_ok (hb : LoopsOk Try.prog rowU (envOf 86 4 [(168, spec_l23Copy_C), (160, spec_l1In_C), (131, spec_l23Owners_C), (132, spec_HeapOk_C), (169, spec_l23Put_C), (179, spec_KeyWord_C)] [(0, spec_Grant_L0_H)]) (loopAt (codeP 86) 0)) : LoopOk Try.prog rowU (envOf 86 4 [(168, spec_l23Copy_C), (160, spec_l1In_C), (131, spec_l23Owners_C), (132, spec_HeapOk_C), (169, spec_l23Put_C), (179, spec_KeyWord_C)] [(0, spec_Grant_L0_H)]) 0 (loopAt (codeP 86) 0) spec_Grant_L0_H :=
  loopR_ok tagOk mixed envNl (envT (TabOk.cons spec_l23Copy_ok (TabOk.cons spec_l1In_ok (TabOk.cons spec_l23Owners_ok (TabOk.cons spec_HeapOk_ok (TabOk.cons spec_l23Put_ok (TabOk.cons spec_KeyWord_ok TabOk.nil))))))) hb spec_Grant_L0_st spec_Grant_L0_D_ok fun p s ρ A Kx Kr => (spec_Grant_L0_nf p s ρ A Kx Kr).trans (spec_Grant_L0_bind (p.1) (p.2.1) (p.2.2.1) (p.2.2.2.1) (p.2.2.2.2.1) (p.2.2.2.2.2.1) (p.2.2.2.2.2.2.1) (p.2.2.2.2.2.2.2.1) (p.2.2.2.2.2.2.2.2.1) (p.2.2.2.2.2.2.2.2.2) s _ _ _)
noncomputable def spec_Grant_K (x0 : GHeap) (x1 : Int) {ρ : Type} (K : GHeap × GWord × Bool → Option ρ) : Option ρ :=
  Option.bind (spec_l23Copy x0) fun r1 =>
  Option.bind (spec_HeapOk x0) fun r2 =>
  cond ((!r2) == false)
    (Option.bind (spec_l1In x1 1 24) fun r3 =>
    cond (!r3)
      (K (r1, (⟨0, false, (⟨0, 0, 0, 0⟩ : GKey)⟩ : GWord), false))
      (Option.bind (spec_l23Owners x0) fun r4 =>
      Option.bind (runL (spec_Grant_L0_step x0.mem.words x0.mem.gone x0.live x0.waits r4 r1.mem.words r1.mem.gone r1.live r1.waits x1) (0, 0)) fun ot7 => sumK ot7
        (fun t7 => K (r1, (⟨0, false, (⟨0, 0, 0, 0⟩ : GKey)⟩ : GWord), false))
        (fun k8 => K ((⟨r1.mem, k8.2.2.2.2.2.2, r1.waits⟩ : GHeap), (⟨k8.1, k8.2.1, (⟨k8.2.2.1, k8.2.2.2.1, k8.2.2.2.2.1, k8.2.2.2.2.2.1⟩ : GKey)⟩ : GWord), true))))
    (K (r1, (⟨0, false, (⟨0, 0, 0, 0⟩ : GKey)⟩ : GWord), false))
noncomputable def spec_Grant (x0 : GHeap) (x1 : Int) : Option (GHeap × GWord × Bool) := spec_Grant_K x0 x1 some
theorem spec_Grant_bind (x0 : GHeap) (x1 : Int) {ρ : Type} (K : GHeap × GWord × Bool → Option ρ) : spec_Grant_K x0 x1 K = (spec_Grant x0 x1).bind K := by
  simp only [spec_Grant, spec_Grant_K, Option.bind_assoc, Option.bind_some, Option.bind_none, cond_bind, sumK_bind]
noncomputable def spec_Grant_E : Env Row := envN false 86 4 [(168, spec_l23Copy_C), (160, spec_l1In_C), (131, spec_l23Owners_C), (132, spec_HeapOk_C), (169, spec_l23Put_C), (179, spec_KeyWord_C)] [(0, spec_Grant_L0_H)]
theorem spec_Grant_nf (x0 : GHeap) (x1 : Int) (ρ : Type) (K : V → Heap Row → Option ρ) : evBody rowU spec_Grant_E (bodyC 86) [.a [.sl 0 0, .sl 1 0, .sl 2 0, .sl 3 0], .c (.int .i64 x1)] [⟨.row ⟨.word, x0.mem.words⟩, 0, 1⟩, ⟨.row ⟨.bool, x0.mem.gone⟩, 0, 1⟩, ⟨.row ⟨.span, x0.live⟩, 0, 1⟩, ⟨.row ⟨.span, x0.waits⟩, 0, 1⟩] K = spec_Grant_K x0 x1 (fun r => K (.t [(true, [.sl 4 0, .sl 5 0, .sl 6 0, .sl 7 0]), (true, [.int .i64 r.2.1.n, .bool r.2.1.is, .int .i64 r.2.1.key.base, .int .i64 r.2.1.key.top, .int .i64 r.2.1.key.perms, .int .i64 r.2.1.key.seal_]), (false, [.bool r.2.2])]) [⟨.row ⟨.word, x0.mem.words⟩, 0, 1⟩, ⟨.row ⟨.bool, x0.mem.gone⟩, 0, 1⟩, ⟨.row ⟨.span, x0.live⟩, 0, 1⟩, ⟨.row ⟨.span, x0.waits⟩, 0, 1⟩, ⟨.row ⟨.word, r.1.mem.words⟩, 0, 2⟩, ⟨.row ⟨.bool, r.1.mem.gone⟩, 0, 2⟩, ⟨.row ⟨.span, r.1.live⟩, 0, 2⟩, ⟨.row ⟨.span, r.1.waits⟩, 0, 2⟩]) := by kernel_rfl
def spec_Grant_D : List V → Heap Row → Option (GHeap × Int)
  | [.a (.sl 0 0 :: .sl 1 0 :: .sl 2 0 :: .sl 3 0 :: []), .c (.int .i64 v1)], [⟨.row ⟨.word, v2⟩, 0, 1⟩, ⟨.row ⟨.bool, v3⟩, 0, 1⟩, ⟨.row ⟨.span, v4⟩, 0, 1⟩, ⟨.row ⟨.span, v5⟩, 0, 1⟩] => some (⟨⟨v2, v3⟩, v4, v5⟩, v1)
  | _, _ => none
theorem spec_Grant_D_ok {vs : List V} {W : Heap Row} {a : GHeap × Int} (h : spec_Grant_D vs W = some a) : vs = [.a [.sl 0 0, .sl 1 0, .sl 2 0, .sl 3 0], .c (.int .i64 (a.2))] ∧ W = [⟨.row ⟨.word, (a.1).mem.words⟩, 0, 1⟩, ⟨.row ⟨.bool, (a.1).mem.gone⟩, 0, 1⟩, ⟨.row ⟨.span, (a.1).live⟩, 0, 1⟩, ⟨.row ⟨.span, (a.1).waits⟩, 0, 1⟩] := by
  unfold spec_Grant_D at h
  split at h
  · simp at h; subst h; exact ⟨rfl, rfl⟩
  · simp at h
noncomputable def spec_Grant_C : Callee Row := ⟨[(false, 0), (false, 0), (false, 0), (false, 0)], fun _ vs W K => (spec_Grant_D vs W).bind fun a => (spec_Grant a.1 a.2).bind fun r => K (.t [(true, [.sl 4 0, .sl 5 0, .sl 6 0, .sl 7 0]), (true, [.int .i64 r.2.1.n, .bool r.2.1.is, .int .i64 r.2.1.key.base, .int .i64 r.2.1.key.top, .int .i64 r.2.1.key.perms, .int .i64 r.2.1.key.seal_]), (false, [.bool r.2.2])]) [⟨.row ⟨.word, (a.1).mem.words⟩, 0, 1⟩, ⟨.row ⟨.bool, (a.1).mem.gone⟩, 0, 1⟩, ⟨.row ⟨.span, (a.1).live⟩, 0, 1⟩, ⟨.row ⟨.span, (a.1).waits⟩, 0, 1⟩, ⟨.row ⟨.word, r.1.mem.words⟩, 0, 2⟩, ⟨.row ⟨.bool, r.1.mem.gone⟩, 0, 2⟩, ⟨.row ⟨.span, r.1.live⟩, 0, 2⟩, ⟨.row ⟨.span, r.1.waits⟩, 0, 2⟩]⟩
theorem spec_Grant_ok : CalleeOk Try.prog rowU 86 spec_Grant_C := by
  refine calleeP (nl := false) (m0 := 4) (T := [(168, spec_l23Copy_C), (160, spec_l1In_C), (131, spec_l23Owners_C), (132, spec_HeapOk_C), (169, spec_l23Put_C), (179, spec_KeyWord_C)]) (H := [(0, spec_Grant_L0_H)]) (TabOk.cons spec_l23Copy_ok (TabOk.cons spec_l1In_ok (TabOk.cons spec_l23Owners_ok (TabOk.cons spec_HeapOk_ok (TabOk.cons spec_l23Put_ok (TabOk.cons spec_KeyWord_ok TabOk.nil)))))) (by kernel_rfl) (by kernel_rfl) (fun p hp hb => by
    simp only [List.mem_cons, List.not_mem_nil, or_false] at hp
    subst hp
    exact spec_Grant_L0_ok hb) fun ρ vs W K r h => ?_
  obtain ⟨a, ha, h1⟩ := Option.bind_eq_some_iff.1 h
  clear h
  obtain ⟨rfl, rfl⟩ := spec_Grant_D_ok ha
  obtain ⟨q, hq, h2⟩ := Option.bind_eq_some_iff.1 h1
  exact ⟨_, _, h2, (spec_Grant_nf (a.1) (a.2) _ _).trans ((spec_Grant_bind (a.1) (a.2) _).trans (by rw [hq]; rfl))⟩
/-! loop.example/g00249/spec.GiveBack -/
noncomputable def spec_GiveBack_L2_K (l0 : List GWord) (l1 : List Bool) (l2 : List GSpan) (l3 : List GSpan) (n4 : Int) (n5 : Int) (l6 : List GWord) (l8 : List GSpan) (l9 : List GSpan) (l7 : List Bool) (n10 : Int) {ρ : Type} (A : List Bool × Int → Option ρ) (X : List Bool → Option ρ) (R : Unit → Option ρ) : Option ρ :=
  cond (decide (n10 < (w64 (n4 + n5))))
    (cond (decide (0 ≤ n10)) (cond (decide (n10 < (((l7.length : Nat) : Int)))) (A (List.set l7 (n10.toNat) true, w64 (n10 + 1))) none) none)
    (X l7)
noncomputable def spec_GiveBack_L2_step (l0 : List GWord) (l1 : List Bool) (l2 : List GSpan) (l3 : List GSpan) (n4 : Int) (n5 : Int) (l6 : List GWord) (l8 : List GSpan) (l9 : List GSpan) (s : List Bool × Int) : Option (Rnd (List Bool × Int) (List Bool) (Unit)) := spec_GiveBack_L2_K l0 l1 l2 l3 n4 n5 l6 l8 l9 (s.1) (s.2) (fun s => some (.again s)) (fun t => some (.exit t)) (fun k => some (.ret k))
theorem spec_GiveBack_L2_bind (l0 : List GWord) (l1 : List Bool) (l2 : List GSpan) (l3 : List GSpan) (n4 : Int) (n5 : Int) (l6 : List GWord) (l8 : List GSpan) (l9 : List GSpan) (s : List Bool × Int) {ρ : Type} (A : List Bool × Int → Option ρ) (X : List Bool → Option ρ) (R : Unit → Option ρ) : spec_GiveBack_L2_K l0 l1 l2 l3 n4 n5 l6 l8 l9 (s.1) (s.2) A X R = (spec_GiveBack_L2_step l0 l1 l2 l3 n4 n5 l6 l8 l9 s).bind (rndE A X R) := by
  simp only [spec_GiveBack_L2_step, spec_GiveBack_L2_K, Option.bind_assoc, Option.bind_some, Option.bind_none, cond_bind, sumK_bind, rndE_again, rndE_exit, rndE_ret]
def spec_GiveBack_L2_st (p : List GWord × List Bool × List GSpan × List GSpan × Int × Int × List GWord × List GSpan × List GSpan) (s : List Bool × Int) : List V × Heap Row := ([.c (.ptr 4 0), .c (.ptr 5 0), .c (.ptr 6 0), .c (.int .i64 (s.2))], [⟨.row ⟨.word, p.1⟩, 0, 1⟩, ⟨.row ⟨.bool, p.2.1⟩, 0, 1⟩, ⟨.row ⟨.span, p.2.2.1⟩, 0, 1⟩, ⟨.row ⟨.span, p.2.2.2.1⟩, 0, 1⟩, ⟨.box [.nils 3, .nils 1, .nils 4, .nils 4], 0, 2⟩, ⟨.box [.sl 7 0, .sl 8 0, .sl 9 0, .sl 10 0], 0, 2⟩, ⟨.box [.int .i64 (p.2.2.2.2.1), .int .i64 (p.2.2.2.2.2.1)], 0, 2⟩, ⟨.row ⟨.word, p.2.2.2.2.2.2.1⟩, 0, 2⟩, ⟨.row ⟨.bool, s.1⟩, 0, 2⟩, ⟨.row ⟨.span, p.2.2.2.2.2.2.2.1⟩, 0, 2⟩, ⟨.row ⟨.span, p.2.2.2.2.2.2.2.2⟩, 0, 2⟩])
def spec_GiveBack_L2_so (p : List GWord × List Bool × List GSpan × List GSpan × Int × Int × List GWord × List GSpan × List GSpan) (t : List Bool) : List V × Heap Row := ([.c (.ptr 4 0), .c (.ptr 5 0)], [⟨.row ⟨.word, p.1⟩, 0, 1⟩, ⟨.row ⟨.bool, p.2.1⟩, 0, 1⟩, ⟨.row ⟨.span, p.2.2.1⟩, 0, 1⟩, ⟨.row ⟨.span, p.2.2.2.1⟩, 0, 1⟩, ⟨.box [.nils 3, .nils 1, .nils 4, .nils 4], 0, 2⟩, ⟨.box [.sl 6 0, .sl 7 0, .sl 8 0, .sl 9 0], 0, 2⟩, ⟨.row ⟨.word, p.2.2.2.2.2.2.1⟩, 0, 2⟩, ⟨.row ⟨.bool, t⟩, 0, 2⟩, ⟨.row ⟨.span, p.2.2.2.2.2.2.2.1⟩, 0, 2⟩, ⟨.row ⟨.span, p.2.2.2.2.2.2.2.2⟩, 0, 2⟩])
def spec_GiveBack_L2_D : List V → Heap Row → Option ((List GWord × List Bool × List GSpan × List GSpan × Int × Int × List GWord × List GSpan × List GSpan) × (List Bool × Int))
  | [.c (.ptr 4 0), .c (.ptr 5 0), .c (.ptr 6 0), .c (.int .i64 v1)], [⟨.row ⟨.word, v2⟩, 0, 1⟩, ⟨.row ⟨.bool, v3⟩, 0, 1⟩, ⟨.row ⟨.span, v4⟩, 0, 1⟩, ⟨.row ⟨.span, v5⟩, 0, 1⟩, ⟨.box [.nils 3, .nils 1, .nils 4, .nils 4], 0, 2⟩, ⟨.box [.sl 7 0, .sl 8 0, .sl 9 0, .sl 10 0], 0, 2⟩, ⟨.box [.int .i64 v6, .int .i64 v7], 0, 2⟩, ⟨.row ⟨.word, v8⟩, 0, 2⟩, ⟨.row ⟨.bool, v9⟩, 0, 2⟩, ⟨.row ⟨.span, v10⟩, 0, 2⟩, ⟨.row ⟨.span, v11⟩, 0, 2⟩] => some ((v2, v3, v4, v5, v6, v7, v8, v10, v11), (v9, v1))
  | _, _ => none
theorem spec_GiveBack_L2_D_ok (vs : List V) (L : Heap Row) (p : List GWord × List Bool × List GSpan × List GSpan × Int × Int × List GWord × List GSpan × List GSpan) (s : List Bool × Int) (h : spec_GiveBack_L2_D vs L = some (p, s)) : spec_GiveBack_L2_st p s = (vs, L) := by
  unfold spec_GiveBack_L2_D at h
  split at h
  · simp at h; obtain ⟨rfl, rfl⟩ := h; rfl
  · simp at h
noncomputable def spec_GiveBack_L2_H : LoopH Row := loopX [4, 6, 8, 9] [4, 6] spec_GiveBack_L2_D (fun p => spec_GiveBack_L2_step (p.1) (p.2.1) (p.2.2.1) (p.2.2.2.1) (p.2.2.2.2.1) (p.2.2.2.2.2.1) (p.2.2.2.2.2.2.1) (p.2.2.2.2.2.2.2.1) (p.2.2.2.2.2.2.2.2)) spec_GiveBack_L2_so
noncomputable def spec_GiveBack_L0_K (l0 : List GWord) (l1 : List Bool) (l2 : List GSpan) (l3 : List GSpan) (l4 : List GWord) (l5 : List Bool) (l6 : List GSpan) (l7 : List GSpan) (n8 : Int) (n9 : Int) {ρ : Type} (A : Int → Option ρ) (X : Unit → Option ρ) (R : List Bool × List GSpan × List GSpan → Option ρ) : Option ρ :=
  cond (decide (n9 < (((l2.length : Nat) : Int))))
    (cond (decide (0 ≤ n9)) (cond (decide (n9 < (((l2.length : Nat) : Int)))) (cond ((List.getD l2 (n9.toNat) (default)).at_ != n8)
      (A (w64 (n9 + 1)))
      (cond (decide (0 ≤ n9)) (cond (decide (n9 ≤ (((l2.length : Nat) : Int)))) (cond (decide (((0 + ((cutL l2 0 ((n9 - 0).toNat)).length)) * 16) ≤ 140737488355328)) (cond (decide (0 ≤ (w64 (n9 + 1)))) (cond (decide ((w64 (n9 + 1)) ≤ (((l2.length : Nat) : Int)))) (cond (decide ((((l2.length : Nat) : Int)) ≤ (((l2.length : Nat) : Int)))) (cond (decide ((((([] ++ (cutL l2 0 ((n9 - 0).toNat))).length) + ((cutL l2 ((w64 (n9 + 1)).toNat) (((((l2.length : Nat) : Int)) - (w64 (n9 + 1))).toNat)).length)) * 16) ≤ 140737488355328)) (Option.bind (spec_l23Put l3 (List.getD l2 (n9.toNat) (default))) fun r3 =>
      Option.bind (runX (spec_GiveBack_L2_step l0 l1 l2 l3 (List.getD l2 (n9.toNat) (default)).at_ (List.getD l2 (n9.toNat) (default)).len l4 (([] ++ (cutL l2 0 ((n9 - 0).toNat))) ++ (cutL l2 ((w64 (n9 + 1)).toNat) (((((l2.length : Nat) : Int)) - (w64 (n9 + 1))).toNat))) r3) (l5, (List.getD l2 (n9.toNat) (default)).at_)) fun t4 =>
      R (t4, ([] ++ (cutL l2 0 ((n9 - 0).toNat))) ++ (cutL l2 ((w64 (n9 + 1)).toNat) (((((l2.length : Nat) : Int)) - (w64 (n9 + 1))).toNat)), r3)) none) none) none) none) none) none) none)) none) none)
    (X ())
noncomputable def spec_GiveBack_L0_step (l0 : List GWord) (l1 : List Bool) (l2 : List GSpan) (l3 : List GSpan) (l4 : List GWord) (l5 : List Bool) (l6 : List GSpan) (l7 : List GSpan) (n8 : Int) (s : Int) : Option (Rnd (Int) (Unit) (List Bool × List GSpan × List GSpan)) := spec_GiveBack_L0_K l0 l1 l2 l3 l4 l5 l6 l7 n8 s (fun s => some (.again s)) (fun t => some (.exit t)) (fun k => some (.ret k))
theorem spec_GiveBack_L0_bind (l0 : List GWord) (l1 : List Bool) (l2 : List GSpan) (l3 : List GSpan) (l4 : List GWord) (l5 : List Bool) (l6 : List GSpan) (l7 : List GSpan) (n8 : Int) (s : Int) {ρ : Type} (A : Int → Option ρ) (X : Unit → Option ρ) (R : List Bool × List GSpan × List GSpan → Option ρ) : spec_GiveBack_L0_K l0 l1 l2 l3 l4 l5 l6 l7 n8 s A X R = (spec_GiveBack_L0_step l0 l1 l2 l3 l4 l5 l6 l7 n8 s).bind (rndE A X R) := by
  simp only [spec_GiveBack_L0_step, spec_GiveBack_L0_K, Option.bind_assoc, Option.bind_some, Option.bind_none, cond_bind, sumK_bind, rndE_again, rndE_exit, rndE_ret]
def spec_GiveBack_L0_st (p : List GWord × List Bool × List GSpan × List GSpan × List GWord × List Bool × List GSpan × List GSpan × Int) (s : Int) : List V × Heap Row := ([.c (.int .i64 (p.2.2.2.2.2.2.2.2)), .c (.ptr 4 0), .c (.ptr 5 0), .c (.ptr 6 0), .c (.int .i64 (s))], [⟨.row ⟨.word, p.1⟩, 0, 1⟩, ⟨.row ⟨.bool, p.2.1⟩, 0, 1⟩, ⟨.row ⟨.span, p.2.2.1⟩, 0, 1⟩, ⟨.row ⟨.span, p.2.2.2.1⟩, 0, 1⟩, ⟨.box [.sl 0 0, .sl 1 0, .sl 2 0, .sl 3 0], 0, 2⟩, ⟨.box [.nils 3, .nils 1, .nils 4, .nils 4], 0, 2⟩, ⟨.box [.sl 7 0, .sl 8 0, .sl 9 0, .sl 10 0], 0, 2⟩, ⟨.row ⟨.word, p.2.2.2.2.1⟩, 0, 2⟩, ⟨.row ⟨.bool, p.2.2.2.2.2.1⟩, 0, 2⟩, ⟨.row ⟨.span, p.2.2.2.2.2.2.1⟩, 0, 2⟩, ⟨.row ⟨.span, p.2.2.2.2.2.2.2.1⟩, 0, 2⟩])
def spec_GiveBack_L0_so (p : List GWord × List Bool × List GSpan × List GSpan × List GWord × List Bool × List GSpan × List GSpan × Int) (t : Unit) : List V × Heap Row := ([.c (.ptr 4 0), .c (.ptr 5 0)], [⟨.row ⟨.word, p.1⟩, 0, 1⟩, ⟨.row ⟨.bool, p.2.1⟩, 0, 1⟩, ⟨.row ⟨.span, p.2.2.1⟩, 0, 1⟩, ⟨.row ⟨.span, p.2.2.2.1⟩, 0, 1⟩, ⟨.box [.nils 3, .nils 1, .nils 4, .nils 4], 0, 2⟩, ⟨.box [.sl 6 0, .sl 7 0, .sl 8 0, .sl 9 0], 0, 2⟩, ⟨.row ⟨.word, p.2.2.2.2.1⟩, 0, 2⟩, ⟨.row ⟨.bool, p.2.2.2.2.2.1⟩, 0, 2⟩, ⟨.row ⟨.span, p.2.2.2.2.2.2.1⟩, 0, 2⟩, ⟨.row ⟨.span, p.2.2.2.2.2.2.2.1⟩, 0, 2⟩])
def spec_GiveBack_L0_sr (p : List GWord × List Bool × List GSpan × List GSpan × List GWord × List Bool × List GSpan × List GSpan × Int) (k : List Bool × List GSpan × List GSpan) : List V × Heap Row := ([.c (.ptr 4 0), .c (.bool true)], [⟨.row ⟨.word, p.1⟩, 0, 1⟩, ⟨.row ⟨.bool, p.2.1⟩, 0, 1⟩, ⟨.row ⟨.span, p.2.2.1⟩, 0, 1⟩, ⟨.row ⟨.span, p.2.2.2.1⟩, 0, 1⟩, ⟨.box [.sl 5 0, .sl 6 0, .sl 7 0, .sl 8 0], 0, 2⟩, ⟨.row ⟨.word, p.2.2.2.2.1⟩, 0, 2⟩, ⟨.row ⟨.bool, (k).1⟩, 0, 2⟩, ⟨.row ⟨.span, (k).2.1⟩, 0, 2⟩, ⟨.row ⟨.span, (k).2.2⟩, 0, 2⟩])
def spec_GiveBack_L0_D : List V → Heap Row → Option ((List GWord × List Bool × List GSpan × List GSpan × List GWord × List Bool × List GSpan × List GSpan × Int) × (Int))
  | [.c (.int .i64 v1), .c (.ptr 4 0), .c (.ptr 5 0), .c (.ptr 6 0), .c (.int .i64 v2)], [⟨.row ⟨.word, v3⟩, 0, 1⟩, ⟨.row ⟨.bool, v4⟩, 0, 1⟩, ⟨.row ⟨.span, v5⟩, 0, 1⟩, ⟨.row ⟨.span, v6⟩, 0, 1⟩, ⟨.box [.sl 0 0, .sl 1 0, .sl 2 0, .sl 3 0], 0, 2⟩, ⟨.box [.nils 3, .nils 1, .nils 4, .nils 4], 0, 2⟩, ⟨.box [.sl 7 0, .sl 8 0, .sl 9 0, .sl 10 0], 0, 2⟩, ⟨.row ⟨.word, v7⟩, 0, 2⟩, ⟨.row ⟨.bool, v8⟩, 0, 2⟩, ⟨.row ⟨.span, v9⟩, 0, 2⟩, ⟨.row ⟨.span, v10⟩, 0, 2⟩] => some ((v3, v4, v5, v6, v7, v8, v9, v10, v1), (v2))
  | _, _ => none
theorem spec_GiveBack_L0_D_ok (vs : List V) (L : Heap Row) (p : List GWord × List Bool × List GSpan × List GSpan × List GWord × List Bool × List GSpan × List GSpan × Int) (s : Int) (h : spec_GiveBack_L0_D vs L = some (p, s)) : spec_GiveBack_L0_st p s = (vs, L) := by
  unfold spec_GiveBack_L0_D at h
  split at h
  · simp at h; obtain ⟨rfl, rfl⟩ := h; rfl
  · simp at h
noncomputable def spec_GiveBack_L0_H : LoopH Row := loopR [1, 2, 4, 6, 7] [4, 6] spec_GiveBack_L0_D (fun p => spec_GiveBack_L0_step (p.1) (p.2.1) (p.2.2.1) (p.2.2.2.1) (p.2.2.2.2.1) (p.2.2.2.2.2.1) (p.2.2.2.2.2.2.1) (p.2.2.2.2.2.2.2.1) (p.2.2.2.2.2.2.2.2)) spec_GiveBack_L0_so spec_GiveBack_L0_sr
theorem spec_GiveBack_L2_nf (p : List GWord × List Bool × List GSpan × List GSpan × Int × Int × List GWord × List GSpan × List GSpan) (s : List Bool × Int) (ρ : Type) (again Kx Kr : List V → Heap Row → Option ρ) : evRound rowU (envOf 79 4 [(168, spec_l23Copy_C), (132, spec_HeapOk_C), (169, spec_l23Put_C)] [(2, spec_GiveBack_L2_H), (0, spec_GiveBack_L0_H)]) 2 spec_GiveBack_L2_H (loopC 79 2) again (spec_GiveBack_L2_st p s).1 (spec_GiveBack_L2_st p s).2 Kx Kr = spec_GiveBack_L2_K (p.1) (p.2.1) (p.2.2.1) (p.2.2.2.1) (p.2.2.2.2.1) (p.2.2.2.2.2.1) (p.2.2.2.2.2.2.1) (p.2.2.2.2.2.2.2.1) (p.2.2.2.2.2.2.2.2) (s.1) (s.2) (fun s => again (spec_GiveBack_L2_st p s).1 (spec_GiveBack_L2_st p s).2) (fun t => Kx (spec_GiveBack_L2_so p t).1 (spec_GiveBack_L2_so p t).2) (fun _ => none) := by kernel_rfl
theorem spec_GiveBack_L2_ok (hb : LoopsOk Try.prog rowU (envOf 79 4 [(168, spec_l23Copy_C), (132, spec_HeapOk_C), (169, spec_l23Put_C)] [(2, spec_GiveBack_L2_H), (0, spec_GiveBack_L0_H)]) (loopAt (codeP 79) 2)) : LoopOk Try.prog rowU (envOf 79 4 [(168, spec_l23Copy_C), (132, spec_HeapOk_C), (169, spec_l23Put_C)] [(2, spec_GiveBack_L2_H), (0, spec_GiveBack_L0_H)]) 2 (loopAt (codeP 79) 2) spec_GiveBack_L2_H :=
  loopX_ok tagOk mixed envNl (envT (TabOk.cons spec_l23Copy_ok (TabOk.cons spec_HeapOk_ok (TabOk.cons spec_l23Put_ok TabOk.nil)))) hb spec_GiveBack_L2_st spec_GiveBack_L2_D_ok fun p s ρ A Kx Kr => (spec_GiveBack_L2_nf p s ρ A Kx Kr).trans (spec_GiveBack_L2_bind (p.1) (p.2.1) (p.2.2.1) (p.2.2.2.1) (p.2.2.2.2.1) (p.2.2.2.2.2.1) (p.2.2.2.2.2.2.1) (p.2.2.2.2.2.2.2.1) (p.2.2.2.2.2.2.2.2) s _ _ _)
theorem spec_GiveBack_L0_nf (p : List GWord × List Bool × List GSpan × List GSpan × List GWord × List Bool × List GSpan × List GSpan × Int) (s : Int) (ρ : Type) (again Kx Kr : List V → Heap Row → Option ρ) : evRound rowU (envOf 79 4 [(168, spec_l23Copy_C), (132, spec_HeapOk_C), (169, spec_l23Put_C)] [(2, spec_GiveBack_L2_H), (0, spec_GiveBack_L0_H)]) 0 spec_GiveBack_L0_H (loopC 79 0) again (spec_GiveBack_L0_st p s).1 (spec_GiveBack_L0_st p s).2 Kx Kr = spec_GiveBack_L0_K (p.1) (p.2.1) (p.2.2.1) (p.2.2.2.1) (p.2.2.2.2.1) (p.2.2.2.2.2.1) (p.2.2.2.2.2.2.1) (p.2.2.2.2.2.2.2.1) (p.2.2.2.2.2.2.2.2) s (fun s => again (spec_GiveBack_L0_st p s).1 (spec_GiveBack_L0_st p s).2) (fun t => Kx (spec_GiveBack_L0_so p t).1 (spec_GiveBack_L0_so p t).2) (fun k => Kr (spec_GiveBack_L0_sr p k).1 (spec_GiveBack_L0_sr p k).2) := by kernel_rfl
theorem spec_GiveBack_L0_ok (hb : LoopsOk Try.prog rowU (envOf 79 4 [(168, spec_l23Copy_C), (132, spec_HeapOk_C), (169, spec_l23Put_C)] [(2, spec_GiveBack_L2_H), (0, spec_GiveBack_L0_H)]) (loopAt (codeP 79) 0)) : LoopOk Try.prog rowU (envOf 79 4 [(168, spec_l23Copy_C), (132, spec_HeapOk_C), (169, spec_l23Put_C)] [(2, spec_GiveBack_L2_H), (0, spec_GiveBack_L0_H)]) 0 (loopAt (codeP 79) 0) spec_GiveBack_L0_H :=
  loopR_ok tagOk mixed envNl (envT (TabOk.cons spec_l23Copy_ok (TabOk.cons spec_HeapOk_ok (TabOk.cons spec_l23Put_ok TabOk.nil)))) hb spec_GiveBack_L0_st spec_GiveBack_L0_D_ok fun p s ρ A Kx Kr => (spec_GiveBack_L0_nf p s ρ A Kx Kr).trans (spec_GiveBack_L0_bind (p.1) (p.2.1) (p.2.2.1) (p.2.2.2.1) (p.2.2.2.2.1) (p.2.2.2.2.2.1) (p.2.2.2.2.2.2.1) (p.2.2.2.2.2.2.2.1) (p.2.2.2.2.2.2.2.2) s _ _ _)
noncomputable def spec_GiveBack_K (x0 : GHeap) (x1 : Int) {ρ : Type} (K : GHeap × Bool → Option ρ) : Option ρ :=
  Option.bind (spec_l23Copy x0) fun r1 =>
  Option.bind (spec_HeapOk x0) fun r2 =>
  cond (!r2)
    (K (r1, false))
    (Option.bind (runL (spec_GiveBack_L0_step x0.mem.words x0.mem.gone x0.live x0.waits r1.mem.words r1.mem.gone r1.live r1.waits x1) 0) fun ot5 => sumK ot5
      (fun t5 => K (r1, false))
      (fun k6 => K ((⟨(⟨r1.mem.words, k6.1⟩ : GMemory), k6.2.1, k6.2.2⟩ : GHeap), true)))
noncomputable def spec_GiveBack (x0 : GHeap) (x1 : Int) : Option (GHeap × Bool) := spec_GiveBack_K x0 x1 some
theorem spec_GiveBack_bind (x0 : GHeap) (x1 : Int) {ρ : Type} (K : GHeap × Bool → Option ρ) : spec_GiveBack_K x0 x1 K = (spec_GiveBack x0 x1).bind K := by
  simp only [spec_GiveBack, spec_GiveBack_K, Option.bind_assoc, Option.bind_some, Option.bind_none, cond_bind, sumK_bind]
noncomputable def spec_GiveBack_E : Env Row := envN false 79 4 [(168, spec_l23Copy_C), (132, spec_HeapOk_C), (169, spec_l23Put_C)] [(2, spec_GiveBack_L2_H), (0, spec_GiveBack_L0_H)]
theorem spec_GiveBack_nf (x0 : GHeap) (x1 : Int) (ρ : Type) (K : V → Heap Row → Option ρ) : evBody rowU spec_GiveBack_E (bodyC 79) [.a [.sl 0 0, .sl 1 0, .sl 2 0, .sl 3 0], .c (.int .i64 x1)] [⟨.row ⟨.word, x0.mem.words⟩, 0, 1⟩, ⟨.row ⟨.bool, x0.mem.gone⟩, 0, 1⟩, ⟨.row ⟨.span, x0.live⟩, 0, 1⟩, ⟨.row ⟨.span, x0.waits⟩, 0, 1⟩] K = spec_GiveBack_K x0 x1 (fun r => K (.t [(true, [.sl 4 0, .sl 5 0, .sl 6 0, .sl 7 0]), (false, [.bool r.2])]) [⟨.row ⟨.word, x0.mem.words⟩, 0, 1⟩, ⟨.row ⟨.bool, x0.mem.gone⟩, 0, 1⟩, ⟨.row ⟨.span, x0.live⟩, 0, 1⟩, ⟨.row ⟨.span, x0.waits⟩, 0, 1⟩, ⟨.row ⟨.word, r.1.mem.words⟩, 0, 2⟩, ⟨.row ⟨.bool, r.1.mem.gone⟩, 0, 2⟩, ⟨.row ⟨.span, r.1.live⟩, 0, 2⟩, ⟨.row ⟨.span, r.1.waits⟩, 0, 2⟩]) := by kernel_rfl
def spec_GiveBack_D : List V → Heap Row → Option (GHeap × Int)
  | [.a (.sl 0 0 :: .sl 1 0 :: .sl 2 0 :: .sl 3 0 :: []), .c (.int .i64 v1)], [⟨.row ⟨.word, v2⟩, 0, 1⟩, ⟨.row ⟨.bool, v3⟩, 0, 1⟩, ⟨.row ⟨.span, v4⟩, 0, 1⟩, ⟨.row ⟨.span, v5⟩, 0, 1⟩] => some (⟨⟨v2, v3⟩, v4, v5⟩, v1)
  | _, _ => none
theorem spec_GiveBack_D_ok {vs : List V} {W : Heap Row} {a : GHeap × Int} (h : spec_GiveBack_D vs W = some a) : vs = [.a [.sl 0 0, .sl 1 0, .sl 2 0, .sl 3 0], .c (.int .i64 (a.2))] ∧ W = [⟨.row ⟨.word, (a.1).mem.words⟩, 0, 1⟩, ⟨.row ⟨.bool, (a.1).mem.gone⟩, 0, 1⟩, ⟨.row ⟨.span, (a.1).live⟩, 0, 1⟩, ⟨.row ⟨.span, (a.1).waits⟩, 0, 1⟩] := by
  unfold spec_GiveBack_D at h
  split at h
  · simp at h; subst h; exact ⟨rfl, rfl⟩
  · simp at h
noncomputable def spec_GiveBack_C : Callee Row := ⟨[(false, 0), (false, 0), (false, 0), (false, 0)], fun _ vs W K => (spec_GiveBack_D vs W).bind fun a => (spec_GiveBack a.1 a.2).bind fun r => K (.t [(true, [.sl 4 0, .sl 5 0, .sl 6 0, .sl 7 0]), (false, [.bool r.2])]) [⟨.row ⟨.word, (a.1).mem.words⟩, 0, 1⟩, ⟨.row ⟨.bool, (a.1).mem.gone⟩, 0, 1⟩, ⟨.row ⟨.span, (a.1).live⟩, 0, 1⟩, ⟨.row ⟨.span, (a.1).waits⟩, 0, 1⟩, ⟨.row ⟨.word, r.1.mem.words⟩, 0, 2⟩, ⟨.row ⟨.bool, r.1.mem.gone⟩, 0, 2⟩, ⟨.row ⟨.span, r.1.live⟩, 0, 2⟩, ⟨.row ⟨.span, r.1.waits⟩, 0, 2⟩]⟩
theorem spec_GiveBack_ok : CalleeOk Try.prog rowU 79 spec_GiveBack_C := by
  refine calleeP (nl := false) (m0 := 4) (T := [(168, spec_l23Copy_C), (132, spec_HeapOk_C), (169, spec_l23Put_C)]) (H := [(2, spec_GiveBack_L2_H), (0, spec_GiveBack_L0_H)]) (TabOk.cons spec_l23Copy_ok (TabOk.cons spec_HeapOk_ok (TabOk.cons spec_l23Put_ok TabOk.nil))) (by kernel_rfl) (by kernel_rfl) (fun p hp hb => by
    simp only [List.mem_cons, List.not_mem_nil, or_false] at hp
    rcases hp with rfl | rfl
    · exact spec_GiveBack_L2_ok hb
    · exact spec_GiveBack_L0_ok hb) fun ρ vs W K r h => ?_
  obtain ⟨a, ha, h1⟩ := Option.bind_eq_some_iff.1 h
  clear h
  obtain ⟨rfl, rfl⟩ := spec_GiveBack_D_ok ha
  obtain ⟨q, hq, h2⟩ := Option.bind_eq_some_iff.1 h1
  exact ⟨_, _, h2, (spec_GiveBack_nf (a.1) (a.2) _ _).trans ((spec_GiveBack_bind (a.1) (a.2) _).trans (by rw [hq]; rfl))⟩
/-! loop.example/g00249/spec.l4Open -/
noncomputable def spec_l4Open_K (x0 : GWord) {ρ : Type} (K : Bool → Option ρ) : Option ρ :=
  Option.bind (spec_WordOk x0) fun r1 =>
  cond (r1 == true)
    (cond (x0.is == true)
      (K (x0.key.seal_ == 0))
      (K false))
    (K false)
noncomputable def spec_l4Open (x0 : GWord) : Option (Bool) := spec_l4Open_K x0 some
theorem spec_l4Open_bind (x0 : GWord) {ρ : Type} (K : Bool → Option ρ) : spec_l4Open_K x0 K = (spec_l4Open x0).bind K := by
  simp only [spec_l4Open, spec_l4Open_K, Option.bind_assoc, Option.bind_some, Option.bind_none, cond_bind, sumK_bind]
noncomputable def spec_l4Open_E : Env Row := envN false 253 0 [(117, spec_WordOk_C)] []
theorem spec_l4Open_nf (x0 : GWord) (ρ : Type) (K : V → Heap Row → Option ρ) : evBody rowU spec_l4Open_E (bodyC 253) [.a [.int .i64 x0.n, .bool x0.is, .int .i64 x0.key.base, .int .i64 x0.key.top, .int .i64 x0.key.perms, .int .i64 x0.key.seal_]] [] K = spec_l4Open_K x0 (fun r => K (.c (.bool r)) []) := by kernel_rfl
def spec_l4Open_D : List V → Heap Row → Option (GWord)
  | [.a (.int .i64 v1 :: .bool v2 :: .int .i64 v3 :: .int .i64 v4 :: .int .i64 v5 :: .int .i64 v6 :: [])], [] => some (⟨v1, v2, ⟨v3, v4, v5, v6⟩⟩)
  | _, _ => none
theorem spec_l4Open_D_ok {vs : List V} {W : Heap Row} {a : GWord} (h : spec_l4Open_D vs W = some a) : vs = [.a [.int .i64 (a).n, .bool (a).is, .int .i64 (a).key.base, .int .i64 (a).key.top, .int .i64 (a).key.perms, .int .i64 (a).key.seal_]] ∧ W = [] := by
  unfold spec_l4Open_D at h
  split at h
  · simp at h; subst h; exact ⟨rfl, rfl⟩
  · simp at h
noncomputable def spec_l4Open_C : Callee Row := ⟨[], fun _ vs W K => (spec_l4Open_D vs W).bind fun a => (spec_l4Open a).bind fun r => K (.c (.bool r)) []⟩
theorem spec_l4Open_ok : CalleeOk Try.prog rowU 253 spec_l4Open_C := by
  refine calleeP (nl := false) (m0 := 0) (T := [(117, spec_WordOk_C)]) (H := []) (TabOk.cons spec_WordOk_ok TabOk.nil) (by kernel_rfl) (by kernel_rfl) (fun p hp => nomatch hp) fun ρ vs W K r h => ?_
  obtain ⟨a, ha, h1⟩ := Option.bind_eq_some_iff.1 h
  clear h
  obtain ⟨rfl, rfl⟩ := spec_l4Open_D_ok ha
  obtain ⟨q, hq, h2⟩ := Option.bind_eq_some_iff.1 h1
  exact ⟨_, _, h2, (spec_l4Open_nf a _ _).trans ((spec_l4Open_bind a _).trans (by rw [hq]; rfl))⟩
/-! loop.example/g00249/spec.Bare -/
def spec_Bare_K (x0 : GWord) {ρ : Type} (K : GWord → Option ρ) : Option ρ :=
  Option.bind (spec_Plain x0.n) fun r1 =>
  K r1
def spec_Bare (x0 : GWord) : Option (GWord) := spec_Bare_K x0 some
theorem spec_Bare_bind (x0 : GWord) {ρ : Type} (K : GWord → Option ρ) : spec_Bare_K x0 K = (spec_Bare x0).bind K := by
  simp only [spec_Bare, spec_Bare_K, Option.bind_assoc, Option.bind_some, Option.bind_none, cond_bind, sumK_bind]
noncomputable def spec_Bare_E : Env Row := envN false 255 0 [(239, spec_Plain_C)] []
theorem spec_Bare_nf (x0 : GWord) (ρ : Type) (K : V → Heap Row → Option ρ) : evBody rowU spec_Bare_E (bodyC 255) [.a [.int .i64 x0.n, .bool x0.is, .int .i64 x0.key.base, .int .i64 x0.key.top, .int .i64 x0.key.perms, .int .i64 x0.key.seal_]] [] K = spec_Bare_K x0 (fun r => K (.a [.int .i64 r.n, .bool r.is, .int .i64 r.key.base, .int .i64 r.key.top, .int .i64 r.key.perms, .int .i64 r.key.seal_]) []) := by kernel_rfl
def spec_Bare_D : List V → Heap Row → Option (GWord)
  | [.a (.int .i64 v1 :: .bool v2 :: .int .i64 v3 :: .int .i64 v4 :: .int .i64 v5 :: .int .i64 v6 :: [])], [] => some (⟨v1, v2, ⟨v3, v4, v5, v6⟩⟩)
  | _, _ => none
theorem spec_Bare_D_ok {vs : List V} {W : Heap Row} {a : GWord} (h : spec_Bare_D vs W = some a) : vs = [.a [.int .i64 (a).n, .bool (a).is, .int .i64 (a).key.base, .int .i64 (a).key.top, .int .i64 (a).key.perms, .int .i64 (a).key.seal_]] ∧ W = [] := by
  unfold spec_Bare_D at h
  split at h
  · simp at h; subst h; exact ⟨rfl, rfl⟩
  · simp at h
def spec_Bare_C : Callee Row := ⟨[], fun _ vs W K => (spec_Bare_D vs W).bind fun a => (spec_Bare a).bind fun r => K (.a [.int .i64 r.n, .bool r.is, .int .i64 r.key.base, .int .i64 r.key.top, .int .i64 r.key.perms, .int .i64 r.key.seal_]) []⟩
theorem spec_Bare_ok : CalleeOk Try.prog rowU 255 spec_Bare_C := by
  refine calleeP (nl := false) (m0 := 0) (T := [(239, spec_Plain_C)]) (H := []) (TabOk.cons spec_Plain_ok TabOk.nil) (by kernel_rfl) (by kernel_rfl) (fun p hp => nomatch hp) fun ρ vs W K r h => ?_
  obtain ⟨a, ha, h1⟩ := Option.bind_eq_some_iff.1 h
  clear h
  obtain ⟨rfl, rfl⟩ := spec_Bare_D_ok ha
  obtain ⟨q, hq, h2⟩ := Option.bind_eq_some_iff.1 h1
  exact ⟨_, _, h2, (spec_Bare_nf a _ _).trans ((spec_Bare_bind a _).trans (by rw [hq]; rfl))⟩
/-! loop.example/g00249/spec.Narrow -/
noncomputable def spec_Narrow_K (x0 : GWord) (x1 : Int) {ρ : Type} (K : GWord → Option ρ) : Option ρ :=
  Option.bind (spec_l4Open x0) fun r1 =>
  cond ((!r1) == false)
    (Option.bind (spec_l1In x1 0 4096) fun r2 =>
    cond ((!r2) == false)
      (Option.bind (spec_BoundsOk x0.n (w64 (x0.n + x1))) fun r3 =>
      cond (!r3)
        (Option.bind (spec_Bare x0) fun r4 =>
        K r4)
        (Option.bind (spec_Wide x0.n (w64 (x0.n + x1))) fun r5 =>
        cond ((decide (r5.1 < x0.key.base)) == false)
          (cond (decide (r5.2 > x0.key.top))
            (Option.bind (spec_Bare x0) fun r6 =>
            K r6)
            (K (⟨x0.n, x0.is, (⟨r5.1, r5.2, x0.key.perms, x0.key.seal_⟩ : GKey)⟩ : GWord)))
          (Option.bind (spec_Bare x0) fun r7 =>
          K r7)))
      (Option.bind (spec_Bare x0) fun r8 =>
      K r8))
    (Option.bind (spec_Bare x0) fun r9 =>
    K r9)
noncomputable def spec_Narrow (x0 : GWord) (x1 : Int) : Option (GWord) := spec_Narrow_K x0 x1 some
theorem spec_Narrow_bind (x0 : GWord) (x1 : Int) {ρ : Type} (K : GWord → Option ρ) : spec_Narrow_K x0 x1 K = (spec_Narrow x0 x1).bind K := by
  simp only [spec_Narrow, spec_Narrow_K, Option.bind_assoc, Option.bind_some, Option.bind_none, cond_bind, sumK_bind]
noncomputable def spec_Narrow_E : Env Row := envN false 212 0 [(160, spec_l1In_C), (254, spec_BoundsOk_C), (256, spec_Wide_C), (253, spec_l4Open_C), (255, spec_Bare_C)] []
theorem spec_Narrow_nf (x0 : GWord) (x1 : Int) (ρ : Type) (K : V → Heap Row → Option ρ) : evBody rowU spec_Narrow_E (bodyC 212) [.a [.int .i64 x0.n, .bool x0.is, .int .i64 x0.key.base, .int .i64 x0.key.top, .int .i64 x0.key.perms, .int .i64 x0.key.seal_], .c (.int .i64 x1)] [] K = spec_Narrow_K x0 x1 (fun r => K (.a [.int .i64 r.n, .bool r.is, .int .i64 r.key.base, .int .i64 r.key.top, .int .i64 r.key.perms, .int .i64 r.key.seal_]) []) := by kernel_rfl
def spec_Narrow_D : List V → Heap Row → Option (GWord × Int)
  | [.a (.int .i64 v1 :: .bool v2 :: .int .i64 v3 :: .int .i64 v4 :: .int .i64 v5 :: .int .i64 v6 :: []), .c (.int .i64 v7)], [] => some (⟨v1, v2, ⟨v3, v4, v5, v6⟩⟩, v7)
  | _, _ => none
theorem spec_Narrow_D_ok {vs : List V} {W : Heap Row} {a : GWord × Int} (h : spec_Narrow_D vs W = some a) : vs = [.a [.int .i64 (a.1).n, .bool (a.1).is, .int .i64 (a.1).key.base, .int .i64 (a.1).key.top, .int .i64 (a.1).key.perms, .int .i64 (a.1).key.seal_], .c (.int .i64 (a.2))] ∧ W = [] := by
  unfold spec_Narrow_D at h
  split at h
  · simp at h; subst h; exact ⟨rfl, rfl⟩
  · simp at h
noncomputable def spec_Narrow_C : Callee Row := ⟨[], fun _ vs W K => (spec_Narrow_D vs W).bind fun a => (spec_Narrow a.1 a.2).bind fun r => K (.a [.int .i64 r.n, .bool r.is, .int .i64 r.key.base, .int .i64 r.key.top, .int .i64 r.key.perms, .int .i64 r.key.seal_]) []⟩
theorem spec_Narrow_ok : CalleeOk Try.prog rowU 212 spec_Narrow_C := by
  refine calleeP (nl := false) (m0 := 0) (T := [(160, spec_l1In_C), (254, spec_BoundsOk_C), (256, spec_Wide_C), (253, spec_l4Open_C), (255, spec_Bare_C)]) (H := []) (TabOk.cons spec_l1In_ok (TabOk.cons spec_BoundsOk_ok (TabOk.cons spec_Wide_ok (TabOk.cons spec_l4Open_ok (TabOk.cons spec_Bare_ok TabOk.nil))))) (by kernel_rfl) (by kernel_rfl) (fun p hp => nomatch hp) fun ρ vs W K r h => ?_
  obtain ⟨a, ha, h1⟩ := Option.bind_eq_some_iff.1 h
  clear h
  obtain ⟨rfl, rfl⟩ := spec_Narrow_D_ok ha
  obtain ⟨q, hq, h2⟩ := Option.bind_eq_some_iff.1 h1
  exact ⟨_, _, h2, (spec_Narrow_nf (a.1) (a.2) _ _).trans ((spec_Narrow_bind (a.1) (a.2) _).trans (by rw [hq]; rfl))⟩
/-! loop.example/g00249/spec.Try -/
noncomputable def spec_Try_K (x0 : GWord) (x1 : Int) (x2 : Int) {ρ : Type} (K : Int → Option ρ) : Option ρ :=
  Option.bind (spec_WordOk x0) fun r1 =>
  cond ((!r1) == false)
    (cond (!x0.is)
      (K 1)
      (cond (x0.key.seal_ != 0)
        (K 2)
        (cond ((bits .and .i64 x0.key.perms x2) != x2)
          (K 3)
          (cond ((decide (x1 < x0.key.base)) == false)
            (cond (decide (x1 ≥ x0.key.top))
              (K 4)
              (K 0))
            (K 4)))))
    (K 1)
noncomputable def spec_Try (x0 : GWord) (x1 : Int) (x2 : Int) : Option (Int) := spec_Try_K x0 x1 x2 some
theorem spec_Try_bind (x0 : GWord) (x1 : Int) (x2 : Int) {ρ : Type} (K : Int → Option ρ) : spec_Try_K x0 x1 x2 K = (spec_Try x0 x1 x2).bind K := by
  simp only [spec_Try, spec_Try_K, Option.bind_assoc, Option.bind_some, Option.bind_none, cond_bind, sumK_bind]
noncomputable def spec_Try_E : Env Row := envN false 294 0 [(117, spec_WordOk_C)] []
theorem spec_Try_nf (x0 : GWord) (x1 : Int) (x2 : Int) (ρ : Type) (K : V → Heap Row → Option ρ) : evBody rowU spec_Try_E (bodyC 294) [.a [.int .i64 x0.n, .bool x0.is, .int .i64 x0.key.base, .int .i64 x0.key.top, .int .i64 x0.key.perms, .int .i64 x0.key.seal_], .c (.int .i64 x1), .c (.int .i64 x2)] [] K = spec_Try_K x0 x1 x2 (fun r => K (.c (.int .i64 r)) []) := by kernel_rfl
def spec_Try_D : List V → Heap Row → Option (GWord × Int × Int)
  | [.a (.int .i64 v1 :: .bool v2 :: .int .i64 v3 :: .int .i64 v4 :: .int .i64 v5 :: .int .i64 v6 :: []), .c (.int .i64 v7), .c (.int .i64 v8)], [] => some (⟨v1, v2, ⟨v3, v4, v5, v6⟩⟩, v7, v8)
  | _, _ => none
theorem spec_Try_D_ok {vs : List V} {W : Heap Row} {a : GWord × Int × Int} (h : spec_Try_D vs W = some a) : vs = [.a [.int .i64 (a.1).n, .bool (a.1).is, .int .i64 (a.1).key.base, .int .i64 (a.1).key.top, .int .i64 (a.1).key.perms, .int .i64 (a.1).key.seal_], .c (.int .i64 (a.2.1)), .c (.int .i64 (a.2.2))] ∧ W = [] := by
  unfold spec_Try_D at h
  split at h
  · simp at h; subst h; exact ⟨rfl, rfl⟩
  · simp at h
noncomputable def spec_Try_C : Callee Row := ⟨[], fun _ vs W K => (spec_Try_D vs W).bind fun a => (spec_Try a.1 a.2.1 a.2.2).bind fun r => K (.c (.int .i64 r)) []⟩
theorem spec_Try_ok : CalleeOk Try.prog rowU 294 spec_Try_C := by
  refine calleeP (nl := false) (m0 := 0) (T := [(117, spec_WordOk_C)]) (H := []) (TabOk.cons spec_WordOk_ok TabOk.nil) (by kernel_rfl) (by kernel_rfl) (fun p hp => nomatch hp) fun ρ vs W K r h => ?_
  obtain ⟨a, ha, h1⟩ := Option.bind_eq_some_iff.1 h
  clear h
  obtain ⟨rfl, rfl⟩ := spec_Try_D_ok ha
  obtain ⟨q, hq, h2⟩ := Option.bind_eq_some_iff.1 h1
  exact ⟨_, _, h2, (spec_Try_nf (a.1) (a.2.1) (a.2.2) _ _).trans ((spec_Try_bind (a.1) (a.2.1) (a.2.2) _).trans (by rw [hq]; rfl))⟩
/-! loop.example/g00249/spec.MayPut -/
def spec_MayPut_K (x0 : GWord) (x1 : GWord) {ρ : Type} (K : Bool → Option ρ) : Option ρ :=
  cond ((!x1.is) == false)
    (K ((bits .and .i64 x0.key.perms 16) != 0))
    (K true)
def spec_MayPut (x0 : GWord) (x1 : GWord) : Option (Bool) := spec_MayPut_K x0 x1 some
theorem spec_MayPut_bind (x0 : GWord) (x1 : GWord) {ρ : Type} (K : Bool → Option ρ) : spec_MayPut_K x0 x1 K = (spec_MayPut x0 x1).bind K := by
  simp only [spec_MayPut, spec_MayPut_K, Option.bind_assoc, Option.bind_some, Option.bind_none, cond_bind, sumK_bind]
noncomputable def spec_MayPut_E : Env Row := envN false 295 0 [] []
theorem spec_MayPut_nf (x0 : GWord) (x1 : GWord) (ρ : Type) (K : V → Heap Row → Option ρ) : evBody rowU spec_MayPut_E (bodyC 295) [.a [.int .i64 x0.n, .bool x0.is, .int .i64 x0.key.base, .int .i64 x0.key.top, .int .i64 x0.key.perms, .int .i64 x0.key.seal_], .a [.int .i64 x1.n, .bool x1.is, .int .i64 x1.key.base, .int .i64 x1.key.top, .int .i64 x1.key.perms, .int .i64 x1.key.seal_]] [] K = spec_MayPut_K x0 x1 (fun r => K (.c (.bool r)) []) := by kernel_rfl
def spec_MayPut_D : List V → Heap Row → Option (GWord × GWord)
  | [.a (.int .i64 v1 :: .bool v2 :: .int .i64 v3 :: .int .i64 v4 :: .int .i64 v5 :: .int .i64 v6 :: []), .a (.int .i64 v7 :: .bool v8 :: .int .i64 v9 :: .int .i64 v10 :: .int .i64 v11 :: .int .i64 v12 :: [])], [] => some (⟨v1, v2, ⟨v3, v4, v5, v6⟩⟩, ⟨v7, v8, ⟨v9, v10, v11, v12⟩⟩)
  | _, _ => none
theorem spec_MayPut_D_ok {vs : List V} {W : Heap Row} {a : GWord × GWord} (h : spec_MayPut_D vs W = some a) : vs = [.a [.int .i64 (a.1).n, .bool (a.1).is, .int .i64 (a.1).key.base, .int .i64 (a.1).key.top, .int .i64 (a.1).key.perms, .int .i64 (a.1).key.seal_], .a [.int .i64 (a.2).n, .bool (a.2).is, .int .i64 (a.2).key.base, .int .i64 (a.2).key.top, .int .i64 (a.2).key.perms, .int .i64 (a.2).key.seal_]] ∧ W = [] := by
  unfold spec_MayPut_D at h
  split at h
  · simp at h; subst h; exact ⟨rfl, rfl⟩
  · simp at h
def spec_MayPut_C : Callee Row := ⟨[], fun _ vs W K => (spec_MayPut_D vs W).bind fun a => (spec_MayPut a.1 a.2).bind fun r => K (.c (.bool r)) []⟩
theorem spec_MayPut_ok : CalleeOk Try.prog rowU 295 spec_MayPut_C := by
  refine calleeP (nl := false) (m0 := 0) (T := []) (H := []) TabOk.nil (by kernel_rfl) (by kernel_rfl) (fun p hp => nomatch hp) fun ρ vs W K r h => ?_
  obtain ⟨a, ha, h1⟩ := Option.bind_eq_some_iff.1 h
  clear h
  obtain ⟨rfl, rfl⟩ := spec_MayPut_D_ok ha
  obtain ⟨q, hq, h2⟩ := Option.bind_eq_some_iff.1 h1
  exact ⟨_, _, h2, (spec_MayPut_nf (a.1) (a.2) _ _).trans ((spec_MayPut_bind (a.1) (a.2) _).trans (by rw [hq]; rfl))⟩
/-! loop.example/g00249/spec.l8Write -/
noncomputable def spec_l8Write_K (x0 : GMemory) (x1 : GWord) (x2 : Int) (x3 : GWord) {ρ : Type} (K : Int → Option ρ) : Option ρ :=
  Option.bind (spec_Try x1 x2 2) fun r1 =>
  cond (r1 != 0)
    (K r1)
    (Option.bind (spec_l1In x2 0 (w64 ((((x0.words.length : Nat) : Int)) - 1))) fun r2 =>
    cond (!r2)
      (K 4)
      (Option.bind (spec_MayPut x1 x3) fun r3 =>
      cond (!r3)
        (K 3)
        (K 0)))
noncomputable def spec_l8Write (x0 : GMemory) (x1 : GWord) (x2 : Int) (x3 : GWord) : Option (Int) := spec_l8Write_K x0 x1 x2 x3 some
theorem spec_l8Write_bind (x0 : GMemory) (x1 : GWord) (x2 : Int) (x3 : GWord) {ρ : Type} (K : Int → Option ρ) : spec_l8Write_K x0 x1 x2 x3 K = (spec_l8Write x0 x1 x2 x3).bind K := by
  simp only [spec_l8Write, spec_l8Write_K, Option.bind_assoc, Option.bind_some, Option.bind_none, cond_bind, sumK_bind]
noncomputable def spec_l8Write_E : Env Row := envN false 257 2 [(160, spec_l1In_C), (294, spec_Try_C), (295, spec_MayPut_C)] []
theorem spec_l8Write_nf (x0 : GMemory) (x1 : GWord) (x2 : Int) (x3 : GWord) (ρ : Type) (K : V → Heap Row → Option ρ) : evBody rowU spec_l8Write_E (bodyC 257) [.a [.sl 0 0, .sl 1 0], .a [.int .i64 x1.n, .bool x1.is, .int .i64 x1.key.base, .int .i64 x1.key.top, .int .i64 x1.key.perms, .int .i64 x1.key.seal_], .c (.int .i64 x2), .a [.int .i64 x3.n, .bool x3.is, .int .i64 x3.key.base, .int .i64 x3.key.top, .int .i64 x3.key.perms, .int .i64 x3.key.seal_]] [⟨.row ⟨.word, x0.words⟩, 0, 1⟩, ⟨.row ⟨.bool, x0.gone⟩, 0, 1⟩] K = spec_l8Write_K x0 x1 x2 x3 (fun r => K (.c (.int .i64 r)) [⟨.row ⟨.word, x0.words⟩, 0, 1⟩, ⟨.row ⟨.bool, x0.gone⟩, 0, 1⟩]) := by kernel_rfl
def spec_l8Write_D : List V → Heap Row → Option (GMemory × GWord × Int × GWord)
  | [.a (.sl 0 0 :: .sl 1 0 :: []), .a (.int .i64 v1 :: .bool v2 :: .int .i64 v3 :: .int .i64 v4 :: .int .i64 v5 :: .int .i64 v6 :: []), .c (.int .i64 v7), .a (.int .i64 v8 :: .bool v9 :: .int .i64 v10 :: .int .i64 v11 :: .int .i64 v12 :: .int .i64 v13 :: [])], [⟨.row ⟨.word, v14⟩, 0, 1⟩, ⟨.row ⟨.bool, v15⟩, 0, 1⟩] => some (⟨v14, v15⟩, ⟨v1, v2, ⟨v3, v4, v5, v6⟩⟩, v7, ⟨v8, v9, ⟨v10, v11, v12, v13⟩⟩)
  | _, _ => none
theorem spec_l8Write_D_ok {vs : List V} {W : Heap Row} {a : GMemory × GWord × Int × GWord} (h : spec_l8Write_D vs W = some a) : vs = [.a [.sl 0 0, .sl 1 0], .a [.int .i64 (a.2.1).n, .bool (a.2.1).is, .int .i64 (a.2.1).key.base, .int .i64 (a.2.1).key.top, .int .i64 (a.2.1).key.perms, .int .i64 (a.2.1).key.seal_], .c (.int .i64 (a.2.2.1)), .a [.int .i64 (a.2.2.2).n, .bool (a.2.2.2).is, .int .i64 (a.2.2.2).key.base, .int .i64 (a.2.2.2).key.top, .int .i64 (a.2.2.2).key.perms, .int .i64 (a.2.2.2).key.seal_]] ∧ W = [⟨.row ⟨.word, (a.1).words⟩, 0, 1⟩, ⟨.row ⟨.bool, (a.1).gone⟩, 0, 1⟩] := by
  unfold spec_l8Write_D at h
  split at h
  · simp at h; subst h; exact ⟨rfl, rfl⟩
  · simp at h
noncomputable def spec_l8Write_C : Callee Row := ⟨[(false, 0), (false, 0)], fun _ vs W K => (spec_l8Write_D vs W).bind fun a => (spec_l8Write a.1 a.2.1 a.2.2.1 a.2.2.2).bind fun r => K (.c (.int .i64 r)) [⟨.row ⟨.word, (a.1).words⟩, 0, 1⟩, ⟨.row ⟨.bool, (a.1).gone⟩, 0, 1⟩]⟩
theorem spec_l8Write_ok : CalleeOk Try.prog rowU 257 spec_l8Write_C := by
  refine calleeP (nl := false) (m0 := 2) (T := [(160, spec_l1In_C), (294, spec_Try_C), (295, spec_MayPut_C)]) (H := []) (TabOk.cons spec_l1In_ok (TabOk.cons spec_Try_ok (TabOk.cons spec_MayPut_ok TabOk.nil))) (by kernel_rfl) (by kernel_rfl) (fun p hp => nomatch hp) fun ρ vs W K r h => ?_
  obtain ⟨a, ha, h1⟩ := Option.bind_eq_some_iff.1 h
  clear h
  obtain ⟨rfl, rfl⟩ := spec_l8Write_D_ok ha
  obtain ⟨q, hq, h2⟩ := Option.bind_eq_some_iff.1 h1
  exact ⟨_, _, h2, (spec_l8Write_nf (a.1) (a.2.1) (a.2.2.1) (a.2.2.2) _ _).trans ((spec_l8Write_bind (a.1) (a.2.1) (a.2.2.1) (a.2.2.2) _).trans (by rw [hq]; rfl))⟩
/-! loop.example/g00249/spec.Write -/
noncomputable def spec_Write_K (x0 : GMemory) (x1 : GWord) (x2 : Int) (x3 : GWord) {ρ : Type} (K : GMemory × Int → Option ρ) : Option ρ :=
  Option.bind (spec_l8Write x0 x1 x2 x3) fun r1 =>
  Option.bind (spec_MemoryOk x0) fun r2 =>
  cond (!r2)
    (K ((⟨[], []⟩ : GMemory), r1))
    (Option.bind (spec_l8Copy x0) fun r3 =>
    cond (r1 == 0)
      (cond (decide (0 ≤ x2)) (cond (decide (x2 < (((r3.words.length : Nat) : Int)))) (K ((⟨List.set r3.words (x2.toNat) x3, r3.gone⟩ : GMemory), r1)) none) none)
      (K (r3, r1)))
noncomputable def spec_Write (x0 : GMemory) (x1 : GWord) (x2 : Int) (x3 : GWord) : Option (GMemory × Int) := spec_Write_K x0 x1 x2 x3 some
theorem spec_Write_bind (x0 : GMemory) (x1 : GWord) (x2 : Int) (x3 : GWord) {ρ : Type} (K : GMemory × Int → Option ρ) : spec_Write_K x0 x1 x2 x3 K = (spec_Write x0 x1 x2 x3).bind K := by
  simp only [spec_Write, spec_Write_K, Option.bind_assoc, Option.bind_some, Option.bind_none, cond_bind, sumK_bind]
noncomputable def spec_Write_E : Env Row := envN false 213 2 [(231, spec_l8Copy_C), (116, spec_MemoryOk_C), (257, spec_l8Write_C)] []
theorem spec_Write_nf (x0 : GMemory) (x1 : GWord) (x2 : Int) (x3 : GWord) (ρ : Type) (K : V → Heap Row → Option ρ) : evBody rowU spec_Write_E (bodyC 213) [.a [.sl 0 0, .sl 1 0], .a [.int .i64 x1.n, .bool x1.is, .int .i64 x1.key.base, .int .i64 x1.key.top, .int .i64 x1.key.perms, .int .i64 x1.key.seal_], .c (.int .i64 x2), .a [.int .i64 x3.n, .bool x3.is, .int .i64 x3.key.base, .int .i64 x3.key.top, .int .i64 x3.key.perms, .int .i64 x3.key.seal_]] [⟨.row ⟨.word, x0.words⟩, 0, 1⟩, ⟨.row ⟨.bool, x0.gone⟩, 0, 1⟩] K = spec_Write_K x0 x1 x2 x3 (fun r => K (.t [(true, [.sl 2 0, .sl 3 0]), (false, [.int .i64 r.2])]) [⟨.row ⟨.word, x0.words⟩, 0, 1⟩, ⟨.row ⟨.bool, x0.gone⟩, 0, 1⟩, ⟨.row ⟨.word, r.1.words⟩, 0, 2⟩, ⟨.row ⟨.bool, r.1.gone⟩, 0, 2⟩]) := by kernel_rfl
def spec_Write_D : List V → Heap Row → Option (GMemory × GWord × Int × GWord)
  | [.a (.sl 0 0 :: .sl 1 0 :: []), .a (.int .i64 v1 :: .bool v2 :: .int .i64 v3 :: .int .i64 v4 :: .int .i64 v5 :: .int .i64 v6 :: []), .c (.int .i64 v7), .a (.int .i64 v8 :: .bool v9 :: .int .i64 v10 :: .int .i64 v11 :: .int .i64 v12 :: .int .i64 v13 :: [])], [⟨.row ⟨.word, v14⟩, 0, 1⟩, ⟨.row ⟨.bool, v15⟩, 0, 1⟩] => some (⟨v14, v15⟩, ⟨v1, v2, ⟨v3, v4, v5, v6⟩⟩, v7, ⟨v8, v9, ⟨v10, v11, v12, v13⟩⟩)
  | _, _ => none
theorem spec_Write_D_ok {vs : List V} {W : Heap Row} {a : GMemory × GWord × Int × GWord} (h : spec_Write_D vs W = some a) : vs = [.a [.sl 0 0, .sl 1 0], .a [.int .i64 (a.2.1).n, .bool (a.2.1).is, .int .i64 (a.2.1).key.base, .int .i64 (a.2.1).key.top, .int .i64 (a.2.1).key.perms, .int .i64 (a.2.1).key.seal_], .c (.int .i64 (a.2.2.1)), .a [.int .i64 (a.2.2.2).n, .bool (a.2.2.2).is, .int .i64 (a.2.2.2).key.base, .int .i64 (a.2.2.2).key.top, .int .i64 (a.2.2.2).key.perms, .int .i64 (a.2.2.2).key.seal_]] ∧ W = [⟨.row ⟨.word, (a.1).words⟩, 0, 1⟩, ⟨.row ⟨.bool, (a.1).gone⟩, 0, 1⟩] := by
  unfold spec_Write_D at h
  split at h
  · simp at h; subst h; exact ⟨rfl, rfl⟩
  · simp at h
noncomputable def spec_Write_C : Callee Row := ⟨[(false, 0), (false, 0)], fun _ vs W K => (spec_Write_D vs W).bind fun a => (spec_Write a.1 a.2.1 a.2.2.1 a.2.2.2).bind fun r => K (.t [(true, [.sl 2 0, .sl 3 0]), (false, [.int .i64 r.2])]) [⟨.row ⟨.word, (a.1).words⟩, 0, 1⟩, ⟨.row ⟨.bool, (a.1).gone⟩, 0, 1⟩, ⟨.row ⟨.word, r.1.words⟩, 0, 2⟩, ⟨.row ⟨.bool, r.1.gone⟩, 0, 2⟩]⟩
theorem spec_Write_ok : CalleeOk Try.prog rowU 213 spec_Write_C := by
  refine calleeP (nl := false) (m0 := 2) (T := [(231, spec_l8Copy_C), (116, spec_MemoryOk_C), (257, spec_l8Write_C)]) (H := []) (TabOk.cons spec_l8Copy_ok (TabOk.cons spec_MemoryOk_ok (TabOk.cons spec_l8Write_ok TabOk.nil))) (by kernel_rfl) (by kernel_rfl) (fun p hp => nomatch hp) fun ρ vs W K r h => ?_
  obtain ⟨a, ha, h1⟩ := Option.bind_eq_some_iff.1 h
  clear h
  obtain ⟨rfl, rfl⟩ := spec_Write_D_ok ha
  obtain ⟨q, hq, h2⟩ := Option.bind_eq_some_iff.1 h1
  exact ⟨_, _, h2, (spec_Write_nf (a.1) (a.2.1) (a.2.2.1) (a.2.2.2) _ _).trans ((spec_Write_bind (a.1) (a.2.1) (a.2.2.1) (a.2.2.2) _).trans (by rw [hq]; rfl))⟩
/-! loop.example/g00249/spec.Filter -/
def spec_Filter_K (x0 : GMemory) (x1 : GWord) {ρ : Type} (K : GWord → Option ρ) : Option ρ :=
  cond (x1.is == true)
    (Option.bind (spec_l1In x1.key.base 0 (w64 ((((x0.gone.length : Nat) : Int)) - 1))) fun r1 =>
    cond (r1 == true)
      (cond (decide (0 ≤ x1.key.base)) (cond (decide (x1.key.base < (((x0.gone.length : Nat) : Int)))) (cond (List.getD x0.gone (x1.key.base.toNat) false)
        (Option.bind (spec_Bare x1) fun r2 =>
        K r2)
        (K x1)) none) none)
      (K x1))
    (K x1)
def spec_Filter (x0 : GMemory) (x1 : GWord) : Option (GWord) := spec_Filter_K x0 x1 some
theorem spec_Filter_bind (x0 : GMemory) (x1 : GWord) {ρ : Type} (K : GWord → Option ρ) : spec_Filter_K x0 x1 K = (spec_Filter x0 x1).bind K := by
  simp only [spec_Filter, spec_Filter_K, Option.bind_assoc, Option.bind_some, Option.bind_none, cond_bind, sumK_bind]
noncomputable def spec_Filter_E : Env Row := envN false 258 2 [(160, spec_l1In_C), (255, spec_Bare_C)] []
theorem spec_Filter_nf (x0 : GMemory) (x1 : GWord) (ρ : Type) (K : V → Heap Row → Option ρ) : evBody rowU spec_Filter_E (bodyC 258) [.a [.sl 0 0, .sl 1 0], .a [.int .i64 x1.n, .bool x1.is, .int .i64 x1.key.base, .int .i64 x1.key.top, .int .i64 x1.key.perms, .int .i64 x1.key.seal_]] [⟨.row ⟨.word, x0.words⟩, 0, 1⟩, ⟨.row ⟨.bool, x0.gone⟩, 0, 1⟩] K = spec_Filter_K x0 x1 (fun r => K (.a [.int .i64 r.n, .bool r.is, .int .i64 r.key.base, .int .i64 r.key.top, .int .i64 r.key.perms, .int .i64 r.key.seal_]) [⟨.row ⟨.word, x0.words⟩, 0, 1⟩, ⟨.row ⟨.bool, x0.gone⟩, 0, 1⟩]) := by kernel_rfl
def spec_Filter_D : List V → Heap Row → Option (GMemory × GWord)
  | [.a (.sl 0 0 :: .sl 1 0 :: []), .a (.int .i64 v1 :: .bool v2 :: .int .i64 v3 :: .int .i64 v4 :: .int .i64 v5 :: .int .i64 v6 :: [])], [⟨.row ⟨.word, v7⟩, 0, 1⟩, ⟨.row ⟨.bool, v8⟩, 0, 1⟩] => some (⟨v7, v8⟩, ⟨v1, v2, ⟨v3, v4, v5, v6⟩⟩)
  | _, _ => none
theorem spec_Filter_D_ok {vs : List V} {W : Heap Row} {a : GMemory × GWord} (h : spec_Filter_D vs W = some a) : vs = [.a [.sl 0 0, .sl 1 0], .a [.int .i64 (a.2).n, .bool (a.2).is, .int .i64 (a.2).key.base, .int .i64 (a.2).key.top, .int .i64 (a.2).key.perms, .int .i64 (a.2).key.seal_]] ∧ W = [⟨.row ⟨.word, (a.1).words⟩, 0, 1⟩, ⟨.row ⟨.bool, (a.1).gone⟩, 0, 1⟩] := by
  unfold spec_Filter_D at h
  split at h
  · simp at h; subst h; exact ⟨rfl, rfl⟩
  · simp at h
def spec_Filter_C : Callee Row := ⟨[(false, 0), (false, 0)], fun _ vs W K => (spec_Filter_D vs W).bind fun a => (spec_Filter a.1 a.2).bind fun r => K (.a [.int .i64 r.n, .bool r.is, .int .i64 r.key.base, .int .i64 r.key.top, .int .i64 r.key.perms, .int .i64 r.key.seal_]) [⟨.row ⟨.word, (a.1).words⟩, 0, 1⟩, ⟨.row ⟨.bool, (a.1).gone⟩, 0, 1⟩]⟩
theorem spec_Filter_ok : CalleeOk Try.prog rowU 258 spec_Filter_C := by
  refine calleeP (nl := false) (m0 := 2) (T := [(160, spec_l1In_C), (255, spec_Bare_C)]) (H := []) (TabOk.cons spec_l1In_ok (TabOk.cons spec_Bare_ok TabOk.nil)) (by kernel_rfl) (by kernel_rfl) (fun p hp => nomatch hp) fun ρ vs W K r h => ?_
  obtain ⟨a, ha, h1⟩ := Option.bind_eq_some_iff.1 h
  clear h
  obtain ⟨rfl, rfl⟩ := spec_Filter_D_ok ha
  obtain ⟨q, hq, h2⟩ := Option.bind_eq_some_iff.1 h1
  exact ⟨_, _, h2, (spec_Filter_nf (a.1) (a.2) _ _).trans ((spec_Filter_bind (a.1) (a.2) _).trans (by rw [hq]; rfl))⟩
/-! loop.example/g00249/spec.Clean -/
noncomputable def spec_Clean_L0_K (l0 : List GWord) (l1 : List Bool) (l2 : List GSpan) (l3 : List GSpan) (l4 : List GWord) (l6 : List GWord) (l7 : List Bool) (l8 : List GSpan) (l9 : List GSpan) (l5 : List GWord) (n10 : Int) {ρ : Type} (A : List GWord × Int → Option ρ) (X : List GWord → Option ρ) (R : Unit → Option ρ) : Option ρ :=
  cond (decide (n10 < (((l5.length : Nat) : Int))))
    (cond (decide (0 ≤ n10)) (cond (decide (n10 < (((l4.length : Nat) : Int)))) (Option.bind (spec_Filter (⟨l0, l1⟩ : GMemory) (List.getD l4 (n10.toNat) (default))) fun r3 =>
    cond (decide (0 ≤ n10)) (cond (decide (n10 < (((l5.length : Nat) : Int)))) (A (List.set l5 (n10.toNat) r3, w64 (n10 + 1))) none) none) none) none)
    (X l5)
noncomputable def spec_Clean_L0_step (l0 : List GWord) (l1 : List Bool) (l2 : List GSpan) (l3 : List GSpan) (l4 : List GWord) (l6 : List GWord) (l7 : List Bool) (l8 : List GSpan) (l9 : List GSpan) (s : List GWord × Int) : Option (Rnd (List GWord × Int) (List GWord) (Unit)) := spec_Clean_L0_K l0 l1 l2 l3 l4 l6 l7 l8 l9 (s.1) (s.2) (fun s => some (.again s)) (fun t => some (.exit t)) (fun k => some (.ret k))
theorem spec_Clean_L0_bind (l0 : List GWord) (l1 : List Bool) (l2 : List GSpan) (l3 : List GSpan) (l4 : List GWord) (l6 : List GWord) (l7 : List Bool) (l8 : List GSpan) (l9 : List GSpan) (s : List GWord × Int) {ρ : Type} (A : List GWord × Int → Option ρ) (X : List GWord → Option ρ) (R : Unit → Option ρ) : spec_Clean_L0_K l0 l1 l2 l3 l4 l6 l7 l8 l9 (s.1) (s.2) A X R = (spec_Clean_L0_step l0 l1 l2 l3 l4 l6 l7 l8 l9 s).bind (rndE A X R) := by
  simp only [spec_Clean_L0_step, spec_Clean_L0_K, Option.bind_assoc, Option.bind_some, Option.bind_none, cond_bind, sumK_bind, rndE_again, rndE_exit, rndE_ret]
def spec_Clean_L0_st (p : List GWord × List Bool × List GSpan × List GSpan × List GWord × List GWord × List Bool × List GSpan × List GSpan) (s : List GWord × Int) : List V × Heap Row := ([.c (.sl 4 0), .c (.ptr 5 0), .c (.ptr 6 0), .c (.ptr 7 0), .c (.sl 8 0), .c (.int .i64 (s.2))], [⟨.row ⟨.word, p.1⟩, 0, 1⟩, ⟨.row ⟨.bool, p.2.1⟩, 0, 1⟩, ⟨.row ⟨.span, p.2.2.1⟩, 0, 1⟩, ⟨.row ⟨.span, p.2.2.2.1⟩, 0, 1⟩, ⟨.row ⟨.word, p.2.2.2.2.1⟩, 0, 1⟩, ⟨.box [.sl 0 0, .sl 1 0, .sl 2 0, .sl 3 0], 0, 2⟩, ⟨.box [.nils 3, .nils 1, .nils 4, .nils 4], 0, 2⟩, ⟨.box [.sl 9 0, .sl 10 0, .sl 11 0, .sl 12 0], 0, 2⟩, ⟨.row ⟨.word, s.1⟩, 0, 2⟩, ⟨.row ⟨.word, p.2.2.2.2.2.1⟩, 0, 2⟩, ⟨.row ⟨.bool, p.2.2.2.2.2.2.1⟩, 0, 2⟩, ⟨.row ⟨.span, p.2.2.2.2.2.2.2.1⟩, 0, 2⟩, ⟨.row ⟨.span, p.2.2.2.2.2.2.2.2⟩, 0, 2⟩])
def spec_Clean_L0_so (p : List GWord × List Bool × List GSpan × List GSpan × List GWord × List GWord × List Bool × List GSpan × List GSpan) (t : List GWord) : List V × Heap Row := ([.c (.ptr 5 0), .c (.ptr 6 0), .c (.ptr 7 0), .c (.sl 8 0)], [⟨.row ⟨.word, p.1⟩, 0, 1⟩, ⟨.row ⟨.bool, p.2.1⟩, 0, 1⟩, ⟨.row ⟨.span, p.2.2.1⟩, 0, 1⟩, ⟨.row ⟨.span, p.2.2.2.1⟩, 0, 1⟩, ⟨.row ⟨.word, p.2.2.2.2.1⟩, 0, 1⟩, ⟨.box [.sl 0 0, .sl 1 0, .sl 2 0, .sl 3 0], 0, 2⟩, ⟨.box [.nils 3, .nils 1, .nils 4, .nils 4], 0, 2⟩, ⟨.box [.sl 9 0, .sl 10 0, .sl 11 0, .sl 12 0], 0, 2⟩, ⟨.row ⟨.word, t⟩, 0, 2⟩, ⟨.row ⟨.word, p.2.2.2.2.2.1⟩, 0, 2⟩, ⟨.row ⟨.bool, p.2.2.2.2.2.2.1⟩, 0, 2⟩, ⟨.row ⟨.span, p.2.2.2.2.2.2.2.1⟩, 0, 2⟩, ⟨.row ⟨.span, p.2.2.2.2.2.2.2.2⟩, 0, 2⟩])
def spec_Clean_L0_D : List V → Heap Row → Option ((List GWord × List Bool × List GSpan × List GSpan × List GWord × List GWord × List Bool × List GSpan × List GSpan) × (List GWord × Int))
  | [.c (.sl 4 0), .c (.ptr 5 0), .c (.ptr 6 0), .c (.ptr 7 0), .c (.sl 8 0), .c (.int .i64 v1)], [⟨.row ⟨.word, v2⟩, 0, 1⟩, ⟨.row ⟨.bool, v3⟩, 0, 1⟩, ⟨.row ⟨.span, v4⟩, 0, 1⟩, ⟨.row ⟨.span, v5⟩, 0, 1⟩, ⟨.row ⟨.word, v6⟩, 0, 1⟩, ⟨.box [.sl 0 0, .sl 1 0, .sl 2 0, .sl 3 0], 0, 2⟩, ⟨.box [.nils 3, .nils 1, .nils 4, .nils 4], 0, 2⟩, ⟨.box [.sl 9 0, .sl 10 0, .sl 11 0, .sl 12 0], 0, 2⟩, ⟨.row ⟨.word, v7⟩, 0, 2⟩, ⟨.row ⟨.word, v8⟩, 0, 2⟩, ⟨.row ⟨.bool, v9⟩, 0, 2⟩, ⟨.row ⟨.span, v10⟩, 0, 2⟩, ⟨.row ⟨.span, v11⟩, 0, 2⟩] => some ((v2, v3, v4, v5, v6, v8, v9, v10, v11), (v7, v1))
  | _, _ => none
theorem spec_Clean_L0_D_ok (vs : List V) (L : Heap Row) (p : List GWord × List Bool × List GSpan × List GSpan × List GWord × List GWord × List Bool × List GSpan × List GSpan) (s : List GWord × Int) (h : spec_Clean_L0_D vs L = some (p, s)) : spec_Clean_L0_st p s = (vs, L) := by
  unfold spec_Clean_L0_D at h
  split at h
  · simp at h; obtain ⟨rfl, rfl⟩ := h; rfl
  · simp at h
noncomputable def spec_Clean_L0_H : LoopH Row := loopX [1, 2, 4, 6, 7, 8] [2, 4, 6, 7] spec_Clean_L0_D (fun p => spec_Clean_L0_step (p.1) (p.2.1) (p.2.2.1) (p.2.2.2.1) (p.2.2.2.2.1) (p.2.2.2.2.2.1) (p.2.2.2.2.2.2.1) (p.2.2.2.2.2.2.2.1) (p.2.2.2.2.2.2.2.2)) spec_Clean_L0_so
noncomputable def spec_Clean_L2_K (l0 : List GWord) (l1 : List Bool) (l2 : List GSpan) (l3 : List GSpan) (l4 : List GWord) (l5 : List GWord) (l8 : List GSpan) (l9 : List GSpan) (l6 : List GWord) (l7 : List Bool) (n10 : Int) {ρ : Type} (A : List GWord × List Bool × Int → Option ρ) (X : List GWord × List Bool → Option ρ) (R : Unit → Option ρ) : Option ρ :=
  cond (decide (n10 < 24))
    (cond (decide (0 ≤ n10)) (cond (decide (n10 < (((l0.length : Nat) : Int)))) (Option.bind (spec_Filter (⟨l0, l1⟩ : GMemory) (List.getD l0 (n10.toNat) (default))) fun r5 =>
    cond (decide (0 ≤ n10)) (cond (decide (n10 < (((l6.length : Nat) : Int)))) (Option.bind (spec_l23In l3 n10) fun r6 =>
    cond r6
      (Option.bind (spec_Plain 0) fun r7 =>
      cond (decide (0 ≤ n10)) (cond (decide (n10 < ((((List.set l6 (n10.toNat) r5).length : Nat) : Int)))) (cond (decide (0 ≤ n10)) (cond (decide (n10 < (((l7.length : Nat) : Int)))) (A (List.set (List.set l6 (n10.toNat) r5) (n10.toNat) r7, List.set l7 (n10.toNat) false, w64 (n10 + 1))) none) none) none) none)
      (cond (decide (0 ≤ n10)) (cond (decide (n10 < (((l7.length : Nat) : Int)))) (A (List.set l6 (n10.toNat) r5, List.set l7 (n10.toNat) false, w64 (n10 + 1))) none) none)) none) none) none) none)
    (X (l6, l7))
noncomputable def spec_Clean_L2_step (l0 : List GWord) (l1 : List Bool) (l2 : List GSpan) (l3 : List GSpan) (l4 : List GWord) (l5 : List GWord) (l8 : List GSpan) (l9 : List GSpan) (s : List GWord × List Bool × Int) : Option (Rnd (List GWord × List Bool × Int) (List GWord × List Bool) (Unit)) := spec_Clean_L2_K l0 l1 l2 l3 l4 l5 l8 l9 (s.1) (s.2.1) (s.2.2) (fun s => some (.again s)) (fun t => some (.exit t)) (fun k => some (.ret k))
theorem spec_Clean_L2_bind (l0 : List GWord) (l1 : List Bool) (l2 : List GSpan) (l3 : List GSpan) (l4 : List GWord) (l5 : List GWord) (l8 : List GSpan) (l9 : List GSpan) (s : List GWord × List Bool × Int) {ρ : Type} (A : List GWord × List Bool × Int → Option ρ) (X : List GWord × List Bool → Option ρ) (R : Unit → Option ρ) : spec_Clean_L2_K l0 l1 l2 l3 l4 l5 l8 l9 (s.1) (s.2.1) (s.2.2) A X R = (spec_Clean_L2_step l0 l1 l2 l3 l4 l5 l8 l9 s).bind (rndE A X R) := by
  simp only [spec_Clean_L2_step, spec_Clean_L2_K, Option.bind_assoc, Option.bind_some, Option.bind_none, cond_bind, sumK_bind, rndE_again, rndE_exit, rndE_ret]
def spec_Clean_L2_st (p : List GWord × List Bool × List GSpan × List GSpan × List GWord × List GWord × List GSpan × List GSpan) (s : List GWord × List Bool × Int) : List V × Heap Row := ([.c (.ptr 5 0), .c (.ptr 6 0), .c (.ptr 7 0), .c (.sl 8 0), .c (.int .i64 (s.2.2))], [⟨.row ⟨.word, p.1⟩, 0, 1⟩, ⟨.row ⟨.bool, p.2.1⟩, 0, 1⟩, ⟨.row ⟨.span, p.2.2.1⟩, 0, 1⟩, ⟨.row ⟨.span, p.2.2.2.1⟩, 0, 1⟩, ⟨.row ⟨.word, p.2.2.2.2.1⟩, 0, 1⟩, ⟨.box [.sl 0 0, .sl 1 0, .sl 2 0, .sl 3 0], 0, 2⟩, ⟨.box [.nils 3, .nils 1, .nils 4, .nils 4], 0, 2⟩, ⟨.box [.sl 9 0, .sl 10 0, .sl 11 0, .sl 12 0], 0, 2⟩, ⟨.row ⟨.word, p.2.2.2.2.2.1⟩, 0, 2⟩, ⟨.row ⟨.word, s.1⟩, 0, 2⟩, ⟨.row ⟨.bool, s.2.1⟩, 0, 2⟩, ⟨.row ⟨.span, p.2.2.2.2.2.2.1⟩, 0, 2⟩, ⟨.row ⟨.span, p.2.2.2.2.2.2.2⟩, 0, 2⟩])
def spec_Clean_L2_so (p : List GWord × List Bool × List GSpan × List GSpan × List GWord × List GWord × List GSpan × List GSpan) (t : List GWord × List Bool) : List V × Heap Row := ([.c (.ptr 5 0), .c (.ptr 6 0), .c (.sl 7 0)], [⟨.row ⟨.word, p.1⟩, 0, 1⟩, ⟨.row ⟨.bool, p.2.1⟩, 0, 1⟩, ⟨.row ⟨.span, p.2.2.1⟩, 0, 1⟩, ⟨.row ⟨.span, p.2.2.2.1⟩, 0, 1⟩, ⟨.row ⟨.word, p.2.2.2.2.1⟩, 0, 1⟩, ⟨.box [.nils 3, .nils 1, .nils 4, .nils 4], 0, 2⟩, ⟨.box [.sl 8 0, .sl 9 0, .sl 10 0, .sl 11 0], 0, 2⟩, ⟨.row ⟨.word, p.2.2.2.2.2.1⟩, 0, 2⟩, ⟨.row ⟨.word, (t).1⟩, 0, 2⟩, ⟨.row ⟨.bool, (t).2⟩, 0, 2⟩, ⟨.row ⟨.span, p.2.2.2.2.2.2.1⟩, 0, 2⟩, ⟨.row ⟨.span, p.2.2.2.2.2.2.2⟩, 0, 2⟩])
def spec_Clean_L2_D : List V → Heap Row → Option ((List GWord × List Bool × List GSpan × List GSpan × List GWord × List GWord × List GSpan × List GSpan) × (List GWord × List Bool × Int))
  | [.c (.ptr 5 0), .c (.ptr 6 0), .c (.ptr 7 0), .c (.sl 8 0), .c (.int .i64 v1)], [⟨.row ⟨.word, v2⟩, 0, 1⟩, ⟨.row ⟨.bool, v3⟩, 0, 1⟩, ⟨.row ⟨.span, v4⟩, 0, 1⟩, ⟨.row ⟨.span, v5⟩, 0, 1⟩, ⟨.row ⟨.word, v6⟩, 0, 1⟩, ⟨.box [.sl 0 0, .sl 1 0, .sl 2 0, .sl 3 0], 0, 2⟩, ⟨.box [.nils 3, .nils 1, .nils 4, .nils 4], 0, 2⟩, ⟨.box [.sl 9 0, .sl 10 0, .sl 11 0, .sl 12 0], 0, 2⟩, ⟨.row ⟨.word, v7⟩, 0, 2⟩, ⟨.row ⟨.word, v8⟩, 0, 2⟩, ⟨.row ⟨.bool, v9⟩, 0, 2⟩, ⟨.row ⟨.span, v10⟩, 0, 2⟩, ⟨.row ⟨.span, v11⟩, 0, 2⟩] => some ((v2, v3, v4, v5, v6, v7, v10, v11), (v8, v9, v1))
  | _, _ => none
theorem spec_Clean_L2_D_ok (vs : List V) (L : Heap Row) (p : List GWord × List Bool × List GSpan × List GSpan × List GWord × List GWord × List GSpan × List GSpan) (s : List GWord × List Bool × Int) (h : spec_Clean_L2_D vs L = some (p, s)) : spec_Clean_L2_st p s = (vs, L) := by
  unfold spec_Clean_L2_D at h
  split at h
  · simp at h; obtain ⟨rfl, rfl⟩ := h; rfl
  · simp at h
noncomputable def spec_Clean_L2_H : LoopH Row := loopX [2, 4, 6, 7, 9] [4, 6, 7] spec_Clean_L2_D (fun p => spec_Clean_L2_step (p.1) (p.2.1) (p.2.2.1) (p.2.2.2.1) (p.2.2.2.2.1) (p.2.2.2.2.2.1) (p.2.2.2.2.2.2.1) (p.2.2.2.2.2.2.2)) spec_Clean_L2_so
theorem spec_Clean_L0_nf (p : List GWord × List Bool × List GSpan × List GSpan × List GWord × List GWord × List Bool × List GSpan × List GSpan) (s : List GWord × Int) (ρ : Type) (again Kx Kr : List V → Heap Row → Option ρ) : evRound rowU (envOf 214 5 [(168, spec_l23Copy_C), (203, spec_l23In_C), (132, spec_HeapOk_C), (239, spec_Plain_C), (258, spec_Filter_C)] [(0, spec_Clean_L0_H), (2, spec_Clean_L2_H)]) 0 spec_Clean_L0_H (loopC 214 0) again (spec_Clean_L0_st p s).1 (spec_Clean_L0_st p s).2 Kx Kr = spec_Clean_L0_K (p.1) (p.2.1) (p.2.2.1) (p.2.2.2.1) (p.2.2.2.2.1) (p.2.2.2.2.2.1) (p.2.2.2.2.2.2.1) (p.2.2.2.2.2.2.2.1) (p.2.2.2.2.2.2.2.2) (s.1) (s.2) (fun s => again (spec_Clean_L0_st p s).1 (spec_Clean_L0_st p s).2) (fun t => Kx (spec_Clean_L0_so p t).1 (spec_Clean_L0_so p t).2) (fun _ => none) := by kernel_rfl
theorem spec_Clean_L0_ok (hb : LoopsOk Try.prog rowU (envOf 214 5 [(168, spec_l23Copy_C), (203, spec_l23In_C), (132, spec_HeapOk_C), (239, spec_Plain_C), (258, spec_Filter_C)] [(0, spec_Clean_L0_H), (2, spec_Clean_L2_H)]) (loopAt (codeP 214) 0)) : LoopOk Try.prog rowU (envOf 214 5 [(168, spec_l23Copy_C), (203, spec_l23In_C), (132, spec_HeapOk_C), (239, spec_Plain_C), (258, spec_Filter_C)] [(0, spec_Clean_L0_H), (2, spec_Clean_L2_H)]) 0 (loopAt (codeP 214) 0) spec_Clean_L0_H :=
  loopX_ok tagOk mixed envNl (envT (TabOk.cons spec_l23Copy_ok (TabOk.cons spec_l23In_ok (TabOk.cons spec_HeapOk_ok (TabOk.cons spec_Plain_ok (TabOk.cons spec_Filter_ok TabOk.nil)))))) hb spec_Clean_L0_st spec_Clean_L0_D_ok fun p s ρ A Kx Kr => (spec_Clean_L0_nf p s ρ A Kx Kr).trans (spec_Clean_L0_bind (p.1) (p.2.1) (p.2.2.1) (p.2.2.2.1) (p.2.2.2.2.1) (p.2.2.2.2.2.1) (p.2.2.2.2.2.2.1) (p.2.2.2.2.2.2.2.1) (p.2.2.2.2.2.2.2.2) s _ _ _)
theorem spec_Clean_L2_nf (p : List GWord × List Bool × List GSpan × List GSpan × List GWord × List GWord × List GSpan × List GSpan) (s : List GWord × List Bool × Int) (ρ : Type) (again Kx Kr : List V → Heap Row → Option ρ) : evRound rowU (envOf 214 5 [(168, spec_l23Copy_C), (203, spec_l23In_C), (132, spec_HeapOk_C), (239, spec_Plain_C), (258, spec_Filter_C)] [(0, spec_Clean_L0_H), (2, spec_Clean_L2_H)]) 2 spec_Clean_L2_H (loopC 214 2) again (spec_Clean_L2_st p s).1 (spec_Clean_L2_st p s).2 Kx Kr = spec_Clean_L2_K (p.1) (p.2.1) (p.2.2.1) (p.2.2.2.1) (p.2.2.2.2.1) (p.2.2.2.2.2.1) (p.2.2.2.2.2.2.1) (p.2.2.2.2.2.2.2) (s.1) (s.2.1) (s.2.2) (fun s => again (spec_Clean_L2_st p s).1 (spec_Clean_L2_st p s).2) (fun t => Kx (spec_Clean_L2_so p t).1 (spec_Clean_L2_so p t).2) (fun _ => none) := by kernel_rfl
theorem spec_Clean_L2_ok (hb : LoopsOk Try.prog rowU (envOf 214 5 [(168, spec_l23Copy_C), (203, spec_l23In_C), (132, spec_HeapOk_C), (239, spec_Plain_C), (258, spec_Filter_C)] [(0, spec_Clean_L0_H), (2, spec_Clean_L2_H)]) (loopAt (codeP 214) 2)) : LoopOk Try.prog rowU (envOf 214 5 [(168, spec_l23Copy_C), (203, spec_l23In_C), (132, spec_HeapOk_C), (239, spec_Plain_C), (258, spec_Filter_C)] [(0, spec_Clean_L0_H), (2, spec_Clean_L2_H)]) 2 (loopAt (codeP 214) 2) spec_Clean_L2_H :=
  loopX_ok tagOk mixed envNl (envT (TabOk.cons spec_l23Copy_ok (TabOk.cons spec_l23In_ok (TabOk.cons spec_HeapOk_ok (TabOk.cons spec_Plain_ok (TabOk.cons spec_Filter_ok TabOk.nil)))))) hb spec_Clean_L2_st spec_Clean_L2_D_ok fun p s ρ A Kx Kr => (spec_Clean_L2_nf p s ρ A Kx Kr).trans (spec_Clean_L2_bind (p.1) (p.2.1) (p.2.2.1) (p.2.2.2.1) (p.2.2.2.2.1) (p.2.2.2.2.2.1) (p.2.2.2.2.2.2.1) (p.2.2.2.2.2.2.2) s _ _ _)
noncomputable def spec_Clean_K (x0 : GHeap) (x1 : List GWord) {ρ : Type} (K : GHeap × List GWord → Option ρ) : Option ρ :=
  Option.bind (spec_l23Copy x0) fun r1 =>
  cond (decide (((0 + (x1.length)) * 48) ≤ 140737488355328)) (Option.bind (spec_HeapOk x0) fun r2 =>
  cond (!r2)
    (K (r1, [] ++ x1))
    (Option.bind (runX (spec_Clean_L0_step x0.mem.words x0.mem.gone x0.live x0.waits x1 r1.mem.words r1.mem.gone r1.live r1.waits) ([] ++ x1, 0)) fun t4 =>
    Option.bind (runX (spec_Clean_L2_step x0.mem.words x0.mem.gone x0.live x0.waits x1 t4 r1.live r1.waits) (r1.mem.words, r1.mem.gone, 0)) fun t8 =>
    K ((⟨(⟨t8.1, t8.2⟩ : GMemory), r1.live, []⟩ : GHeap), t4))) none
noncomputable def spec_Clean (x0 : GHeap) (x1 : List GWord) : Option (GHeap × List GWord) := spec_Clean_K x0 x1 some
theorem spec_Clean_bind (x0 : GHeap) (x1 : List GWord) {ρ : Type} (K : GHeap × List GWord → Option ρ) : spec_Clean_K x0 x1 K = (spec_Clean x0 x1).bind K := by
  simp only [spec_Clean, spec_Clean_K, Option.bind_assoc, Option.bind_some, Option.bind_none, cond_bind, sumK_bind]
noncomputable def spec_Clean_E : Env Row := envN false 214 5 [(168, spec_l23Copy_C), (203, spec_l23In_C), (132, spec_HeapOk_C), (239, spec_Plain_C), (258, spec_Filter_C)] [(0, spec_Clean_L0_H), (2, spec_Clean_L2_H)]
theorem spec_Clean_nf (x0 : GHeap) (x1 : List GWord) (ρ : Type) (K : V → Heap Row → Option ρ) : evBody rowU spec_Clean_E (bodyC 214) [.a [.sl 0 0, .sl 1 0, .sl 2 0, .sl 3 0], .c (.sl 4 0)] [⟨.row ⟨.word, x0.mem.words⟩, 0, 1⟩, ⟨.row ⟨.bool, x0.mem.gone⟩, 0, 1⟩, ⟨.row ⟨.span, x0.live⟩, 0, 1⟩, ⟨.row ⟨.span, x0.waits⟩, 0, 1⟩, ⟨.row ⟨.word, x1⟩, 0, 1⟩] K = spec_Clean_K x0 x1 (fun r => K (.t [(true, [.sl 5 0, .sl 6 0, .sl 7 0, .sl 8 0]), (false, [.sl 9 0])]) [⟨.row ⟨.word, x0.mem.words⟩, 0, 1⟩, ⟨.row ⟨.bool, x0.mem.gone⟩, 0, 1⟩, ⟨.row ⟨.span, x0.live⟩, 0, 1⟩, ⟨.row ⟨.span, x0.waits⟩, 0, 1⟩, ⟨.row ⟨.word, x1⟩, 0, 1⟩, ⟨.row ⟨.word, r.1.mem.words⟩, 0, 2⟩, ⟨.row ⟨.bool, r.1.mem.gone⟩, 0, 2⟩, ⟨.row ⟨.span, r.1.live⟩, 0, 2⟩, ⟨.row ⟨.span, r.1.waits⟩, 0, 2⟩, ⟨.row ⟨.word, r.2⟩, 0, 2⟩]) := by kernel_rfl
def spec_Clean_D : List V → Heap Row → Option (GHeap × List GWord)
  | [.a (.sl 0 0 :: .sl 1 0 :: .sl 2 0 :: .sl 3 0 :: []), .c (.sl 4 0)], [⟨.row ⟨.word, v1⟩, 0, 1⟩, ⟨.row ⟨.bool, v2⟩, 0, 1⟩, ⟨.row ⟨.span, v3⟩, 0, 1⟩, ⟨.row ⟨.span, v4⟩, 0, 1⟩, ⟨.row ⟨.word, v5⟩, 0, 1⟩] => some (⟨⟨v1, v2⟩, v3, v4⟩, v5)
  | _, _ => none
theorem spec_Clean_D_ok {vs : List V} {W : Heap Row} {a : GHeap × List GWord} (h : spec_Clean_D vs W = some a) : vs = [.a [.sl 0 0, .sl 1 0, .sl 2 0, .sl 3 0], .c (.sl 4 0)] ∧ W = [⟨.row ⟨.word, (a.1).mem.words⟩, 0, 1⟩, ⟨.row ⟨.bool, (a.1).mem.gone⟩, 0, 1⟩, ⟨.row ⟨.span, (a.1).live⟩, 0, 1⟩, ⟨.row ⟨.span, (a.1).waits⟩, 0, 1⟩, ⟨.row ⟨.word, a.2⟩, 0, 1⟩] := by
  unfold spec_Clean_D at h
  split at h
  · simp at h; subst h; exact ⟨rfl, rfl⟩
  · simp at h
noncomputable def spec_Clean_C : Callee Row := ⟨[(false, 0), (false, 0), (false, 0), (false, 0), (false, 0)], fun _ vs W K => (spec_Clean_D vs W).bind fun a => (spec_Clean a.1 a.2).bind fun r => K (.t [(true, [.sl 5 0, .sl 6 0, .sl 7 0, .sl 8 0]), (false, [.sl 9 0])]) [⟨.row ⟨.word, (a.1).mem.words⟩, 0, 1⟩, ⟨.row ⟨.bool, (a.1).mem.gone⟩, 0, 1⟩, ⟨.row ⟨.span, (a.1).live⟩, 0, 1⟩, ⟨.row ⟨.span, (a.1).waits⟩, 0, 1⟩, ⟨.row ⟨.word, a.2⟩, 0, 1⟩, ⟨.row ⟨.word, r.1.mem.words⟩, 0, 2⟩, ⟨.row ⟨.bool, r.1.mem.gone⟩, 0, 2⟩, ⟨.row ⟨.span, r.1.live⟩, 0, 2⟩, ⟨.row ⟨.span, r.1.waits⟩, 0, 2⟩, ⟨.row ⟨.word, r.2⟩, 0, 2⟩]⟩
theorem spec_Clean_ok : CalleeOk Try.prog rowU 214 spec_Clean_C := by
  refine calleeP (nl := false) (m0 := 5) (T := [(168, spec_l23Copy_C), (203, spec_l23In_C), (132, spec_HeapOk_C), (239, spec_Plain_C), (258, spec_Filter_C)]) (H := [(0, spec_Clean_L0_H), (2, spec_Clean_L2_H)]) (TabOk.cons spec_l23Copy_ok (TabOk.cons spec_l23In_ok (TabOk.cons spec_HeapOk_ok (TabOk.cons spec_Plain_ok (TabOk.cons spec_Filter_ok TabOk.nil))))) (by kernel_rfl) (by kernel_rfl) (fun p hp hb => by
    simp only [List.mem_cons, List.not_mem_nil, or_false] at hp
    rcases hp with rfl | rfl
    · exact spec_Clean_L0_ok hb
    · exact spec_Clean_L2_ok hb) fun ρ vs W K r h => ?_
  obtain ⟨a, ha, h1⟩ := Option.bind_eq_some_iff.1 h
  clear h
  obtain ⟨rfl, rfl⟩ := spec_Clean_D_ok ha
  obtain ⟨q, hq, h2⟩ := Option.bind_eq_some_iff.1 h1
  exact ⟨_, _, h2, (spec_Clean_nf (a.1) (a.2) _ _).trans ((spec_Clean_bind (a.1) (a.2) _).trans (by rw [hq]; rfl))⟩
/-! loop.example/g00249/spec.l23DrawRight -/
noncomputable def spec_l23DrawRight_L0_K (l2 : List Int) (n0 : Int) (n1 : Int) (l3 : List GWord) (l4 : List GWord) (l5 : List Bool) (l6 : List GSpan) (l7 : List GSpan) (n8 : Int) {ρ : Type} (A : Int × Int × List GWord × List GWord × List Bool × List GSpan × List GSpan × Int → Option ρ) (X : Int × Int × List GWord × List GWord × List Bool × List GSpan × List GSpan → Option ρ) (R : Unit → Option ρ) : Option ρ :=
  Option.bind (spec_l1Below (⟨l2, n0, n1⟩ : GL1Cur) 14) fun r2 =>
  cond (decide (n8 < r2.1))
    (Option.bind (spec_l1Below (⟨l2, r2.2.1, r2.2.2⟩ : GL1Cur) 6) fun r3 =>
    cond (r3.1 == 0)
      (Option.bind (spec_l1Below (⟨l2, r3.2.1, r3.2.2⟩ : GL1Cur) 6) fun r4 =>
      Option.bind (spec_Grant (⟨(⟨l4, l5⟩ : GMemory), l6, l7⟩ : GHeap) (w64 (1 + r4.1))) fun r5 =>
      cond r5.2.2
        (cond (decide ((((l3.length) + 1) * 48) ≤ 140737488355328)) (A (r4.2.1, r4.2.2, l3 ++ [r5.2.1], r5.1.mem.words, r5.1.mem.gone, r5.1.live, r5.1.waits, w64 (n8 + 1))) none)
        (A (r4.2.1, r4.2.2, l3, r5.1.mem.words, r5.1.mem.gone, r5.1.live, r5.1.waits, w64 (n8 + 1))))
      (cond (r3.1 == 1)
        (Option.bind (spec_l1Below (⟨l2, r3.2.1, r3.2.2⟩ : GL1Cur) 6) fun r6 =>
        Option.bind (spec_Grant (⟨(⟨l4, l5⟩ : GMemory), l6, l7⟩ : GHeap) (w64 (1 + r6.1))) fun r7 =>
        cond r7.2.2
          (cond (decide ((((l3.length) + 1) * 48) ≤ 140737488355328)) (A (r6.2.1, r6.2.2, l3 ++ [r7.2.1], r7.1.mem.words, r7.1.mem.gone, r7.1.live, r7.1.waits, w64 (n8 + 1))) none)
          (A (r6.2.1, r6.2.2, l3, r7.1.mem.words, r7.1.mem.gone, r7.1.live, r7.1.waits, w64 (n8 + 1))))
        (cond (r3.1 == 2)
          (cond (decide ((((l6.length : Nat) : Int)) > 0))
            (Option.bind (spec_l1Below (⟨l2, r3.2.1, r3.2.2⟩ : GL1Cur) (((l6.length : Nat) : Int))) fun r8 =>
            cond (decide (0 ≤ r8.1)) (cond (decide (r8.1 < (((l6.length : Nat) : Int)))) (Option.bind (spec_GiveBack (⟨(⟨l4, l5⟩ : GMemory), l6, l7⟩ : GHeap) (List.getD l6 (r8.1.toNat) (default)).at_) fun r9 =>
            A (r8.2.1, r8.2.2, l3, r9.1.mem.words, r9.1.mem.gone, r9.1.live, r9.1.waits, w64 (n8 + 1))) none) none)
            (A (r3.2.1, r3.2.2, l3, l4, l5, l6, l7, w64 (n8 + 1))))
          (cond (r3.1 == 3)
            (cond (decide ((((l3.length : Nat) : Int)) > 0))
              (Option.bind (spec_l1Below (⟨l2, r3.2.1, r3.2.2⟩ : GL1Cur) (((l3.length : Nat) : Int))) fun r10 =>
              cond (decide (0 ≤ r10.1)) (cond (decide (r10.1 < (((l3.length : Nat) : Int)))) (Option.bind (spec_l1Below (⟨l2, r10.2.1, r10.2.2⟩ : GL1Cur) 3) fun r11 =>
              Option.bind (spec_Narrow (⟨(List.getD l3 (r10.1.toNat) (default)).key.base, (List.getD l3 (r10.1.toNat) (default)).is, (List.getD l3 (r10.1.toNat) (default)).key⟩ : GWord) r11.1) fun r12 =>
              cond (decide ((((l3.length) + 1) * 48) ≤ 140737488355328)) (A (r11.2.1, r11.2.2, l3 ++ [r12], l4, l5, l6, l7, w64 (n8 + 1))) none) none) none)
              (A (r3.2.1, r3.2.2, l3, l4, l5, l6, l7, w64 (n8 + 1))))
            (cond (r3.1 == 4)
              (cond (decide ((((l3.length : Nat) : Int)) > 1))
                (Option.bind (spec_l1Below (⟨l2, r3.2.1, r3.2.2⟩ : GL1Cur) (((l3.length : Nat) : Int))) fun r13 =>
                cond (decide (0 ≤ r13.1)) (cond (decide (r13.1 < (((l3.length : Nat) : Int)))) (Option.bind (spec_l1Below (⟨l2, r13.2.1, r13.2.2⟩ : GL1Cur) (((l3.length : Nat) : Int))) fun r14 =>
                cond (decide (0 ≤ r14.1)) (cond (decide (r14.1 < (((l3.length : Nat) : Int)))) (Option.bind (spec_Write (⟨l4, l5⟩ : GMemory) (List.getD l3 (r13.1.toNat) (default)) (List.getD l3 (r13.1.toNat) (default)).key.base (List.getD l3 (r14.1.toNat) (default))) fun r15 =>
                A (r14.2.1, r14.2.2, l3, r15.1.words, r15.1.gone, l6, l7, w64 (n8 + 1))) none) none) none) none)
                (A (r3.2.1, r3.2.2, l3, l4, l5, l6, l7, w64 (n8 + 1))))
              (Option.bind (spec_Clean (⟨(⟨l4, l5⟩ : GMemory), l6, l7⟩ : GHeap) l3) fun r16 =>
              A (r3.2.1, r3.2.2, r16.2, r16.1.mem.words, r16.1.mem.gone, r16.1.live, r16.1.waits, w64 (n8 + 1))))))))
    (X (r2.2.1, r2.2.2, l3, l4, l5, l6, l7))
noncomputable def spec_l23DrawRight_L0_step (l2 : List Int) (s : Int × Int × List GWord × List GWord × List Bool × List GSpan × List GSpan × Int) : Option (Rnd (Int × Int × List GWord × List GWord × List Bool × List GSpan × List GSpan × Int) (Int × Int × List GWord × List GWord × List Bool × List GSpan × List GSpan) (Unit)) := spec_l23DrawRight_L0_K l2 (s.1) (s.2.1) (s.2.2.1) (s.2.2.2.1) (s.2.2.2.2.1) (s.2.2.2.2.2.1) (s.2.2.2.2.2.2.1) (s.2.2.2.2.2.2.2) (fun s => some (.again s)) (fun t => some (.exit t)) (fun k => some (.ret k))
theorem spec_l23DrawRight_L0_bind (l2 : List Int) (s : Int × Int × List GWord × List GWord × List Bool × List GSpan × List GSpan × Int) {ρ : Type} (A : Int × Int × List GWord × List GWord × List Bool × List GSpan × List GSpan × Int → Option ρ) (X : Int × Int × List GWord × List GWord × List Bool × List GSpan × List GSpan → Option ρ) (R : Unit → Option ρ) : spec_l23DrawRight_L0_K l2 (s.1) (s.2.1) (s.2.2.1) (s.2.2.2.1) (s.2.2.2.2.1) (s.2.2.2.2.2.1) (s.2.2.2.2.2.2.1) (s.2.2.2.2.2.2.2) A X R = (spec_l23DrawRight_L0_step l2 s).bind (rndE A X R) := by
  simp only [spec_l23DrawRight_L0_step, spec_l23DrawRight_L0_K, Option.bind_assoc, Option.bind_some, Option.bind_none, cond_bind, sumK_bind, rndE_again, rndE_exit, rndE_ret]
def spec_l23DrawRight_L0_st (p : List Int) (s : Int × Int × List GWord × List GWord × List Bool × List GSpan × List GSpan × Int) : List V × Heap Row := ([.c (.ptr 0 0), .c (.ptr 2 0), .c (.ptr 3 0), .c (.sl 4 0), .c (.int .i64 (s.2.2.2.2.2.2.2))], [⟨.box [.sl 1 0, .int .i64 (s.1), .int .i64 (s.2.1)], 0, 2⟩, ⟨.row ⟨.byte, p⟩, 0, 1⟩, ⟨.box [.nils 3, .nils 1, .nils 4, .nils 4], 0, 2⟩, ⟨.box [.sl 5 0, .sl 6 0, .sl 7 0, .sl 8 0], 0, 2⟩, ⟨.row ⟨.word, s.2.2.1⟩, 0, 2⟩, ⟨.row ⟨.word, s.2.2.2.1⟩, 0, 2⟩, ⟨.row ⟨.bool, s.2.2.2.2.1⟩, 0, 2⟩, ⟨.row ⟨.span, s.2.2.2.2.2.1⟩, 0, 2⟩, ⟨.row ⟨.span, s.2.2.2.2.2.2.1⟩, 0, 2⟩])
def spec_l23DrawRight_L0_so (p : List Int) (t : Int × Int × List GWord × List GWord × List Bool × List GSpan × List GSpan) : List V × Heap Row := ([.c (.ptr 2 0), .c (.ptr 3 0), .c (.sl 4 0)], [⟨.box [.sl 1 0, .int .i64 (t).1, .int .i64 (t).2.1], 0, 2⟩, ⟨.row ⟨.byte, p⟩, 0, 1⟩, ⟨.box [.nils 3, .nils 1, .nils 4, .nils 4], 0, 2⟩, ⟨.box [.sl 5 0, .sl 6 0, .sl 7 0, .sl 8 0], 0, 2⟩, ⟨.row ⟨.word, (t).2.2.1⟩, 0, 2⟩, ⟨.row ⟨.word, (t).2.2.2.1⟩, 0, 2⟩, ⟨.row ⟨.bool, (t).2.2.2.2.1⟩, 0, 2⟩, ⟨.row ⟨.span, (t).2.2.2.2.2.1⟩, 0, 2⟩, ⟨.row ⟨.span, (t).2.2.2.2.2.2⟩, 0, 2⟩])
def spec_l23DrawRight_L0_D : List V → Heap Row → Option ((List Int) × (Int × Int × List GWord × List GWord × List Bool × List GSpan × List GSpan × Int))
  | [.c (.ptr 0 0), .c (.ptr 2 0), .c (.ptr 3 0), .c (.sl 4 0), .c (.int .i64 v1)], [⟨.box [.sl 1 0, .int .i64 v2, .int .i64 v3], 0, 2⟩, ⟨.row ⟨.byte, v4⟩, 0, 1⟩, ⟨.box [.nils 3, .nils 1, .nils 4, .nils 4], 0, 2⟩, ⟨.box [.sl 5 0, .sl 6 0, .sl 7 0, .sl 8 0], 0, 2⟩, ⟨.row ⟨.word, v5⟩, 0, 2⟩, ⟨.row ⟨.word, v6⟩, 0, 2⟩, ⟨.row ⟨.bool, v7⟩, 0, 2⟩, ⟨.row ⟨.span, v8⟩, 0, 2⟩, ⟨.row ⟨.span, v9⟩, 0, 2⟩] => some ((v4), (v2, v3, v5, v6, v7, v8, v9, v1))
  | _, _ => none
theorem spec_l23DrawRight_L0_D_ok (vs : List V) (L : Heap Row) (p : List Int) (s : Int × Int × List GWord × List GWord × List Bool × List GSpan × List GSpan × Int) (h : spec_l23DrawRight_L0_D vs L = some (p, s)) : spec_l23DrawRight_L0_st p s = (vs, L) := by
  unfold spec_l23DrawRight_L0_D at h
  split at h
  · simp at h; obtain ⟨rfl, rfl⟩ := h; rfl
  · simp at h
noncomputable def spec_l23DrawRight_L0_H : LoopH Row := loopX [0, 2, 4, 5, 6] [2, 4, 5] spec_l23DrawRight_L0_D (fun p => spec_l23DrawRight_L0_step p) spec_l23DrawRight_L0_so
theorem spec_l23DrawRight_L0_nf (p : List Int) (s : Int × Int × List GWord × List GWord × List Bool × List GSpan × List GSpan × Int) (ρ : Type) (again Kx Kr : List V → Heap Row → Option ρ) : evRound rowU (envOf 138 2 [(211, spec_HeapNew_C), (110, spec_l1Below_C), (86, spec_Grant_C), (79, spec_GiveBack_C), (212, spec_Narrow_C), (213, spec_Write_C), (214, spec_Clean_C)] [(0, spec_l23DrawRight_L0_H)]) 0 spec_l23DrawRight_L0_H (loopC 138 0) again (spec_l23DrawRight_L0_st p s).1 (spec_l23DrawRight_L0_st p s).2 Kx Kr = spec_l23DrawRight_L0_K p (s.1) (s.2.1) (s.2.2.1) (s.2.2.2.1) (s.2.2.2.2.1) (s.2.2.2.2.2.1) (s.2.2.2.2.2.2.1) (s.2.2.2.2.2.2.2) (fun s => again (spec_l23DrawRight_L0_st p s).1 (spec_l23DrawRight_L0_st p s).2) (fun t => Kx (spec_l23DrawRight_L0_so p t).1 (spec_l23DrawRight_L0_so p t).2) (fun _ => none) := by kernel_rfl
theorem spec_l23DrawRight_L0_ok (hb : LoopsOk Try.prog rowU (envOf 138 2 [(211, spec_HeapNew_C), (110, spec_l1Below_C), (86, spec_Grant_C), (79, spec_GiveBack_C), (212, spec_Narrow_C), (213, spec_Write_C), (214, spec_Clean_C)] [(0, spec_l23DrawRight_L0_H)]) (loopAt (codeP 138) 0)) : LoopOk Try.prog rowU (envOf 138 2 [(211, spec_HeapNew_C), (110, spec_l1Below_C), (86, spec_Grant_C), (79, spec_GiveBack_C), (212, spec_Narrow_C), (213, spec_Write_C), (214, spec_Clean_C)] [(0, spec_l23DrawRight_L0_H)]) 0 (loopAt (codeP 138) 0) spec_l23DrawRight_L0_H :=
  loopX_ok tagOk mixed envNl (envT (TabOk.cons spec_HeapNew_ok (TabOk.cons spec_l1Below_ok (TabOk.cons spec_Grant_ok (TabOk.cons spec_GiveBack_ok (TabOk.cons spec_Narrow_ok (TabOk.cons spec_Write_ok (TabOk.cons spec_Clean_ok TabOk.nil)))))))) hb spec_l23DrawRight_L0_st spec_l23DrawRight_L0_D_ok fun p s ρ A Kx Kr => (spec_l23DrawRight_L0_nf p s ρ A Kx Kr).trans (spec_l23DrawRight_L0_bind p s _ _ _)
noncomputable def spec_l23DrawRight_K (x0 : GL1Cur) {ρ : Type} (K : GHeap × List GWord × Int × Int → Option ρ) : Option ρ :=
  Option.bind (spec_HeapNew ) fun r1 =>
  Option.bind (runX (spec_l23DrawRight_L0_step x0.b) (x0.i, x0.h, [], r1.mem.words, r1.mem.gone, r1.live, r1.waits, 0)) fun t17 =>
  K ((⟨(⟨t17.2.2.2.1, t17.2.2.2.2.1⟩ : GMemory), t17.2.2.2.2.2.1, t17.2.2.2.2.2.2⟩ : GHeap), t17.2.2.1, t17.1, t17.2.1)
noncomputable def spec_l23DrawRight (x0 : GL1Cur) : Option (GHeap × List GWord × Int × Int) := spec_l23DrawRight_K x0 some
theorem spec_l23DrawRight_bind (x0 : GL1Cur) {ρ : Type} (K : GHeap × List GWord × Int × Int → Option ρ) : spec_l23DrawRight_K x0 K = (spec_l23DrawRight x0).bind K := by
  simp only [spec_l23DrawRight, spec_l23DrawRight_K, Option.bind_assoc, Option.bind_some, Option.bind_none, cond_bind, sumK_bind]
noncomputable def spec_l23DrawRight_E : Env Row := envN false 138 2 [(211, spec_HeapNew_C), (110, spec_l1Below_C), (86, spec_Grant_C), (79, spec_GiveBack_C), (212, spec_Narrow_C), (213, spec_Write_C), (214, spec_Clean_C)] [(0, spec_l23DrawRight_L0_H)]
theorem spec_l23DrawRight_nf (x0 : GL1Cur) (ρ : Type) (K : V → Heap Row → Option ρ) : evBody rowU spec_l23DrawRight_E (bodyC 138) [.c (.ptr 0 0)] [⟨.box [.sl 1 0, .int .i64 x0.i, .int .i64 x0.h], 0, 2⟩, ⟨.row ⟨.byte, x0.b⟩, 0, 1⟩] K = spec_l23DrawRight_K x0 (fun r => K (.t [(true, [.sl 2 0, .sl 3 0, .sl 4 0, .sl 5 0]), (false, [.sl 6 0])]) [⟨.box [.sl 1 0, .int .i64 r.2.2.1, .int .i64 r.2.2.2], 0, 2⟩, ⟨.row ⟨.byte, x0.b⟩, 0, 1⟩, ⟨.row ⟨.word, r.1.mem.words⟩, 0, 2⟩, ⟨.row ⟨.bool, r.1.mem.gone⟩, 0, 2⟩, ⟨.row ⟨.span, r.1.live⟩, 0, 2⟩, ⟨.row ⟨.span, r.1.waits⟩, 0, 2⟩, ⟨.row ⟨.word, r.2.1⟩, 0, 2⟩]) := by kernel_rfl
def spec_l23DrawRight_D : List V → Heap Row → Option (GL1Cur)
  | [.c (.ptr 0 0)], [⟨.box [.sl 1 0, .int .i64 v1, .int .i64 v2], 0, 2⟩, ⟨.row ⟨.byte, v3⟩, 0, 1⟩] => some (⟨v3, v1, v2⟩)
  | _, _ => none
theorem spec_l23DrawRight_D_ok {vs : List V} {W : Heap Row} {a : GL1Cur} (h : spec_l23DrawRight_D vs W = some a) : vs = [.c (.ptr 0 0)] ∧ W = [⟨.box [.sl 1 0, .int .i64 (a).i, .int .i64 (a).h], 0, 2⟩, ⟨.row ⟨.byte, (a).b⟩, 0, 1⟩] := by
  unfold spec_l23DrawRight_D at h
  split at h
  · simp at h; subst h; exact ⟨rfl, rfl⟩
  · simp at h
noncomputable def spec_l23DrawRight_C : Callee Row := ⟨[(true, 3), (false, 0)], fun _ vs W K => (spec_l23DrawRight_D vs W).bind fun a => (spec_l23DrawRight a).bind fun r => K (.t [(true, [.sl 2 0, .sl 3 0, .sl 4 0, .sl 5 0]), (false, [.sl 6 0])]) [⟨.box [.sl 1 0, .int .i64 r.2.2.1, .int .i64 r.2.2.2], 0, 2⟩, ⟨.row ⟨.byte, (a).b⟩, 0, 1⟩, ⟨.row ⟨.word, r.1.mem.words⟩, 0, 2⟩, ⟨.row ⟨.bool, r.1.mem.gone⟩, 0, 2⟩, ⟨.row ⟨.span, r.1.live⟩, 0, 2⟩, ⟨.row ⟨.span, r.1.waits⟩, 0, 2⟩, ⟨.row ⟨.word, r.2.1⟩, 0, 2⟩]⟩
theorem spec_l23DrawRight_ok : CalleeOk Try.prog rowU 138 spec_l23DrawRight_C := by
  refine calleeP (nl := false) (m0 := 2) (T := [(211, spec_HeapNew_C), (110, spec_l1Below_C), (86, spec_Grant_C), (79, spec_GiveBack_C), (212, spec_Narrow_C), (213, spec_Write_C), (214, spec_Clean_C)]) (H := [(0, spec_l23DrawRight_L0_H)]) (TabOk.cons spec_HeapNew_ok (TabOk.cons spec_l1Below_ok (TabOk.cons spec_Grant_ok (TabOk.cons spec_GiveBack_ok (TabOk.cons spec_Narrow_ok (TabOk.cons spec_Write_ok (TabOk.cons spec_Clean_ok TabOk.nil))))))) (by kernel_rfl) (by kernel_rfl) (fun p hp hb => by
    simp only [List.mem_cons, List.not_mem_nil, or_false] at hp
    subst hp
    exact spec_l23DrawRight_L0_ok hb) fun ρ vs W K r h => ?_
  obtain ⟨a, ha, h1⟩ := Option.bind_eq_some_iff.1 h
  clear h
  obtain ⟨rfl, rfl⟩ := spec_l23DrawRight_D_ok ha
  obtain ⟨q, hq, h2⟩ := Option.bind_eq_some_iff.1 h1
  exact ⟨_, _, h2, (spec_l23DrawRight_nf a _ _).trans ((spec_l23DrawRight_bind a _).trans (by rw [hq]; rfl))⟩
/-! loop.example/g00249/spec.DrawHeld2 -/
noncomputable def spec_DrawHeld2_K (x0 : List Int) {ρ : Type} (K : GHeap × List GWord → Option ρ) : Option ρ :=
  Option.bind (spec_l1New x0) fun r1 =>
  Option.bind (spec_l23DrawRight (⟨x0, r1.i, r1.h⟩ : GL1Cur)) fun r2 =>
  K (r2.1, r2.2.1)
noncomputable def spec_DrawHeld2 (x0 : List Int) : Option (GHeap × List GWord) := spec_DrawHeld2_K x0 some
theorem spec_DrawHeld2_bind (x0 : List Int) {ρ : Type} (K : GHeap × List GWord → Option ρ) : spec_DrawHeld2_K x0 K = (spec_DrawHeld2 x0).bind K := by
  simp only [spec_DrawHeld2, spec_DrawHeld2_K, Option.bind_assoc, Option.bind_some, Option.bind_none, cond_bind, sumK_bind]
noncomputable def spec_DrawHeld2_E : Env Row := envN false 39 1 [(108, spec_l1New_C), (138, spec_l23DrawRight_C)] []
theorem spec_DrawHeld2_nf (x0 : List Int) (ρ : Type) (K : V → Heap Row → Option ρ) : evBody rowU spec_DrawHeld2_E (bodyC 39) [.c (.sl 0 0)] [⟨.row ⟨.byte, x0⟩, 0, 1⟩] K = spec_DrawHeld2_K x0 (fun r => K (.t [(true, [.sl 1 0, .sl 2 0, .sl 3 0, .sl 4 0]), (false, [.sl 5 0])]) [⟨.row ⟨.byte, x0⟩, 0, 1⟩, ⟨.row ⟨.word, r.1.mem.words⟩, 0, 2⟩, ⟨.row ⟨.bool, r.1.mem.gone⟩, 0, 2⟩, ⟨.row ⟨.span, r.1.live⟩, 0, 2⟩, ⟨.row ⟨.span, r.1.waits⟩, 0, 2⟩, ⟨.row ⟨.word, r.2⟩, 0, 2⟩]) := by kernel_rfl
def spec_DrawHeld2_D : List V → Heap Row → Option (List Int)
  | [.c (.sl 0 0)], [⟨.row ⟨.byte, v1⟩, 0, 1⟩] => some (v1)
  | _, _ => none
theorem spec_DrawHeld2_D_ok {vs : List V} {W : Heap Row} {a : List Int} (h : spec_DrawHeld2_D vs W = some a) : vs = [.c (.sl 0 0)] ∧ W = [⟨.row ⟨.byte, a⟩, 0, 1⟩] := by
  unfold spec_DrawHeld2_D at h
  split at h
  · simp at h; subst h; exact ⟨rfl, rfl⟩
  · simp at h
noncomputable def spec_DrawHeld2_C : Callee Row := ⟨[(false, 0)], fun _ vs W K => (spec_DrawHeld2_D vs W).bind fun a => (spec_DrawHeld2 a).bind fun r => K (.t [(true, [.sl 1 0, .sl 2 0, .sl 3 0, .sl 4 0]), (false, [.sl 5 0])]) [⟨.row ⟨.byte, a⟩, 0, 1⟩, ⟨.row ⟨.word, r.1.mem.words⟩, 0, 2⟩, ⟨.row ⟨.bool, r.1.mem.gone⟩, 0, 2⟩, ⟨.row ⟨.span, r.1.live⟩, 0, 2⟩, ⟨.row ⟨.span, r.1.waits⟩, 0, 2⟩, ⟨.row ⟨.word, r.2⟩, 0, 2⟩]⟩
theorem spec_DrawHeld2_ok : CalleeOk Try.prog rowU 39 spec_DrawHeld2_C := by
  refine calleeP (nl := false) (m0 := 1) (T := [(108, spec_l1New_C), (138, spec_l23DrawRight_C)]) (H := []) (TabOk.cons spec_l1New_ok (TabOk.cons spec_l23DrawRight_ok TabOk.nil)) (by kernel_rfl) (by kernel_rfl) (fun p hp => nomatch hp) fun ρ vs W K r h => ?_
  obtain ⟨a, ha, h1⟩ := Option.bind_eq_some_iff.1 h
  clear h
  obtain ⟨rfl, rfl⟩ := spec_DrawHeld2_D_ok ha
  obtain ⟨q, hq, h2⟩ := Option.bind_eq_some_iff.1 h1
  exact ⟨_, _, h2, (spec_DrawHeld2_nf a _ _).trans ((spec_DrawHeld2_bind a _).trans (by rw [hq]; rfl))⟩
/-! loop.example/g00249/impl.in -/
def impl_in_K (x0 : Int) (x1 : Int) (x2 : Int) {ρ : Type} (K : Bool → Option ρ) : Option ρ :=
  cond ((decide (x0 ≥ x1)) == true)
    (K (decide (x0 ≤ x2)))
    (K false)
def impl_in (x0 : Int) (x1 : Int) (x2 : Int) : Option (Bool) := impl_in_K x0 x1 x2 some
theorem impl_in_bind (x0 : Int) (x1 : Int) (x2 : Int) {ρ : Type} (K : Bool → Option ρ) : impl_in_K x0 x1 x2 K = (impl_in x0 x1 x2).bind K := by
  simp only [impl_in, impl_in_K, Option.bind_assoc, Option.bind_some, Option.bind_none, cond_bind, sumK_bind]
noncomputable def impl_in_E : Env Row := envN false 125 0 [] []
theorem impl_in_nf (x0 : Int) (x1 : Int) (x2 : Int) (ρ : Type) (K : V → Heap Row → Option ρ) : evBody rowU impl_in_E (bodyC 125) [.c (.int .i64 x0), .c (.int .i64 x1), .c (.int .i64 x2)] [] K = impl_in_K x0 x1 x2 (fun r => K (.c (.bool r)) []) := by kernel_rfl
def impl_in_D : List V → Heap Row → Option (Int × Int × Int)
  | [.c (.int .i64 v1), .c (.int .i64 v2), .c (.int .i64 v3)], [] => some (v1, v2, v3)
  | _, _ => none
theorem impl_in_D_ok {vs : List V} {W : Heap Row} {a : Int × Int × Int} (h : impl_in_D vs W = some a) : vs = [.c (.int .i64 (a.1)), .c (.int .i64 (a.2.1)), .c (.int .i64 (a.2.2))] ∧ W = [] := by
  unfold impl_in_D at h
  split at h
  · simp at h; subst h; exact ⟨rfl, rfl⟩
  · simp at h
def impl_in_C : Callee Row := ⟨[], fun _ vs W K => (impl_in_D vs W).bind fun a => (impl_in a.1 a.2.1 a.2.2).bind fun r => K (.c (.bool r)) []⟩
theorem impl_in_ok : CalleeOk Try.prog rowU 125 impl_in_C := by
  refine calleeP (nl := false) (m0 := 0) (T := []) (H := []) TabOk.nil (by kernel_rfl) (by kernel_rfl) (fun p hp => nomatch hp) fun ρ vs W K r h => ?_
  obtain ⟨a, ha, h1⟩ := Option.bind_eq_some_iff.1 h
  clear h
  obtain ⟨rfl, rfl⟩ := impl_in_D_ok ha
  obtain ⟨q, hq, h2⟩ := Option.bind_eq_some_iff.1 h1
  exact ⟨_, _, h2, (impl_in_nf (a.1) (a.2.1) (a.2.2) _ _).trans ((impl_in_bind (a.1) (a.2.1) (a.2.2) _).trans (by rw [hq]; rfl))⟩
/-! loop.example/g00249/impl.BoundsOk -/
def impl_BoundsOk_K (x0 : Int) (x1 : Int) {ρ : Type} (K : Bool → Option ρ) : Option ρ :=
  Option.bind (impl_in x0 0 x1) fun r1 =>
  cond (r1 == true)
    (K (decide (x1 ≤ 4096)))
    (K false)
def impl_BoundsOk (x0 : Int) (x1 : Int) : Option (Bool) := impl_BoundsOk_K x0 x1 some
theorem impl_BoundsOk_bind (x0 : Int) (x1 : Int) {ρ : Type} (K : Bool → Option ρ) : impl_BoundsOk_K x0 x1 K = (impl_BoundsOk x0 x1).bind K := by
  simp only [impl_BoundsOk, impl_BoundsOk_K, Option.bind_assoc, Option.bind_some, Option.bind_none, cond_bind, sumK_bind]
noncomputable def impl_BoundsOk_E : Env Row := envN false 250 0 [(125, impl_in_C)] []
theorem impl_BoundsOk_nf (x0 : Int) (x1 : Int) (ρ : Type) (K : V → Heap Row → Option ρ) : evBody rowU impl_BoundsOk_E (bodyC 250) [.c (.int .i64 x0), .c (.int .i64 x1)] [] K = impl_BoundsOk_K x0 x1 (fun r => K (.c (.bool r)) []) := by kernel_rfl
def impl_BoundsOk_D : List V → Heap Row → Option (Int × Int)
  | [.c (.int .i64 v1), .c (.int .i64 v2)], [] => some (v1, v2)
  | _, _ => none
theorem impl_BoundsOk_D_ok {vs : List V} {W : Heap Row} {a : Int × Int} (h : impl_BoundsOk_D vs W = some a) : vs = [.c (.int .i64 (a.1)), .c (.int .i64 (a.2))] ∧ W = [] := by
  unfold impl_BoundsOk_D at h
  split at h
  · simp at h; subst h; exact ⟨rfl, rfl⟩
  · simp at h
def impl_BoundsOk_C : Callee Row := ⟨[], fun _ vs W K => (impl_BoundsOk_D vs W).bind fun a => (impl_BoundsOk a.1 a.2).bind fun r => K (.c (.bool r)) []⟩
theorem impl_BoundsOk_ok : CalleeOk Try.prog rowU 250 impl_BoundsOk_C := by
  refine calleeP (nl := false) (m0 := 0) (T := [(125, impl_in_C)]) (H := []) (TabOk.cons impl_in_ok TabOk.nil) (by kernel_rfl) (by kernel_rfl) (fun p hp => nomatch hp) fun ρ vs W K r h => ?_
  obtain ⟨a, ha, h1⟩ := Option.bind_eq_some_iff.1 h
  clear h
  obtain ⟨rfl, rfl⟩ := impl_BoundsOk_D_ok ha
  obtain ⟨q, hq, h2⟩ := Option.bind_eq_some_iff.1 h1
  exact ⟨_, _, h2, (impl_BoundsOk_nf (a.1) (a.2) _ _).trans ((impl_BoundsOk_bind (a.1) (a.2) _).trans (by rw [hq]; rfl))⟩
/-! loop.example/g00249/impl.Pack -/
noncomputable def impl_Pack_L0_K (n3 : Int) (n4 : Int) (n5 : Int) {ρ : Type} (A : Int → Option ρ) (X : Unit → Option ρ) (R : Int × Int × Int → Option ρ) : Option ρ :=
  cond (decide (n5 < 7))
    (cond (decide (0 ≤ n5)) (cond ((w64 (1 * (pw2 64 n5))) != 0) (cond ((w64 (1 * (pw2 64 n5))) != 0) (cond ((decide ((w64 (Int.tdiv n3 (w64 (1 * (pw2 64 n5))))) ≤ 63)) == true)
      (cond (decide ((w64 (Int.tdiv (w64 ((w64 ((w64 (n4 - (w64 ((w64 (Int.tdiv n3 (w64 (1 * (pw2 64 n5))))) * (w64 (1 * (pw2 64 n5))))))) + (w64 (1 * (pw2 64 n5))))) - 1)) (w64 (1 * (pw2 64 n5))))) ≤ 63))
        (R (n5, w64 (Int.tdiv n3 (w64 (1 * (pw2 64 n5)))), w64 (Int.tdiv (w64 ((w64 ((w64 (n4 - (w64 ((w64 (Int.tdiv n3 (w64 (1 * (pw2 64 n5))))) * (w64 (1 * (pw2 64 n5))))))) + (w64 (1 * (pw2 64 n5))))) - 1)) (w64 (1 * (pw2 64 n5))))))
        (A (w64 (n5 + 1))))
      (A (w64 (n5 + 1)))) none) none) none)
    (X ())
noncomputable def impl_Pack_L0_step (n3 : Int) (n4 : Int) (s : Int) : Option (Rnd (Int) (Unit) (Int × Int × Int)) := impl_Pack_L0_K n3 n4 s (fun s => some (.again s)) (fun t => some (.exit t)) (fun k => some (.ret k))
theorem impl_Pack_L0_bind (n3 : Int) (n4 : Int) (s : Int) {ρ : Type} (A : Int → Option ρ) (X : Unit → Option ρ) (R : Int × Int × Int → Option ρ) : impl_Pack_L0_K n3 n4 s A X R = (impl_Pack_L0_step n3 n4 s).bind (rndE A X R) := by
  simp only [impl_Pack_L0_step, impl_Pack_L0_K, Option.bind_assoc, Option.bind_some, Option.bind_none, cond_bind, sumK_bind, rndE_again, rndE_exit, rndE_ret]
def impl_Pack_L0_st (p : Int × Int) (s : Int) : List V × Heap Row := ([.c (.int .i64 (p.1)), .c (.int .i64 (p.2)), .c (.ptr 0 0), .c (.int .i64 (s))], [⟨.box [.int .i64 0, .int .i64 0, .int .i64 0], 0, 2⟩])
def impl_Pack_L0_so (p : Int × Int) (t : Unit) : List V × Heap Row := ([.c (.ptr 0 0)], [⟨.box [.int .i64 0, .int .i64 0, .int .i64 0], 0, 2⟩])
def impl_Pack_L0_sr (p : Int × Int) (k : Int × Int × Int) : List V × Heap Row := ([.c (.ptr 0 0), .c (.bool true)], [⟨.box [.int .i64 (k).1, .int .i64 (k).2.1, .int .i64 (k).2.2], 0, 2⟩])
def impl_Pack_L0_D : List V → Heap Row → Option ((Int × Int) × (Int))
  | [.c (.int .i64 v1), .c (.int .i64 v2), .c (.ptr 0 0), .c (.int .i64 v3)], [⟨.box [.int .i64 0, .int .i64 0, .int .i64 0], 0, 2⟩] => some ((v1, v2), (v3))
  | _, _ => none
theorem impl_Pack_L0_D_ok (vs : List V) (L : Heap Row) (p : Int × Int) (s : Int) (h : impl_Pack_L0_D vs L = some (p, s)) : impl_Pack_L0_st p s = (vs, L) := by
  unfold impl_Pack_L0_D at h
  split at h
  · simp at h; obtain ⟨rfl, rfl⟩ := h; rfl
  · simp at h
noncomputable def impl_Pack_L0_H : LoopH Row := loopR [0, 1, 4, 15] [4] impl_Pack_L0_D (fun p => impl_Pack_L0_step (p.1) (p.2)) impl_Pack_L0_so impl_Pack_L0_sr
theorem impl_Pack_L0_nf (p : Int × Int) (s : Int) (ρ : Type) (again Kx Kr : List V → Heap Row → Option ρ) : evRound rowU (envOf 289 0 [(250, impl_BoundsOk_C)] [(0, impl_Pack_L0_H)]) 0 impl_Pack_L0_H (loopC 289 0) again (impl_Pack_L0_st p s).1 (impl_Pack_L0_st p s).2 Kx Kr = impl_Pack_L0_K (p.1) (p.2) s (fun s => again (impl_Pack_L0_st p s).1 (impl_Pack_L0_st p s).2) (fun t => Kx (impl_Pack_L0_so p t).1 (impl_Pack_L0_so p t).2) (fun k => Kr (impl_Pack_L0_sr p k).1 (impl_Pack_L0_sr p k).2) := by kernel_rfl
theorem impl_Pack_L0_ok (hb : LoopsOk Try.prog rowU (envOf 289 0 [(250, impl_BoundsOk_C)] [(0, impl_Pack_L0_H)]) (loopAt (codeP 289) 0)) : LoopOk Try.prog rowU (envOf 289 0 [(250, impl_BoundsOk_C)] [(0, impl_Pack_L0_H)]) 0 (loopAt (codeP 289) 0) impl_Pack_L0_H :=
  loopR_ok tagOk mixed envNl (envT (TabOk.cons impl_BoundsOk_ok TabOk.nil)) hb impl_Pack_L0_st impl_Pack_L0_D_ok fun p s ρ A Kx Kr => (impl_Pack_L0_nf p s ρ A Kx Kr).trans (impl_Pack_L0_bind (p.1) (p.2) s _ _ _)
noncomputable def impl_Pack_K (x0 : Int) (x1 : Int) {ρ : Type} (K : GPacked × Bool → Option ρ) : Option ρ :=
  Option.bind (impl_BoundsOk x0 x1) fun r1 =>
  cond (!r1)
    (K ((⟨0, 0, 0⟩ : GPacked), false))
    (Option.bind (runL (impl_Pack_L0_step x0 x1) 0) fun ot2 => sumK ot2
      (fun t2 => K ((⟨0, 0, 0⟩ : GPacked), false))
      (fun k3 => K ((⟨k3.1, k3.2.1, k3.2.2⟩ : GPacked), true)))
noncomputable def impl_Pack (x0 : Int) (x1 : Int) : Option (GPacked × Bool) := impl_Pack_K x0 x1 some
theorem impl_Pack_bind (x0 : Int) (x1 : Int) {ρ : Type} (K : GPacked × Bool → Option ρ) : impl_Pack_K x0 x1 K = (impl_Pack x0 x1).bind K := by
  simp only [impl_Pack, impl_Pack_K, Option.bind_assoc, Option.bind_some, Option.bind_none, cond_bind, sumK_bind]
noncomputable def impl_Pack_E : Env Row := envN false 289 0 [(250, impl_BoundsOk_C)] [(0, impl_Pack_L0_H)]
theorem impl_Pack_nf (x0 : Int) (x1 : Int) (ρ : Type) (K : V → Heap Row → Option ρ) : evBody rowU impl_Pack_E (bodyC 289) [.c (.int .i64 x0), .c (.int .i64 x1)] [] K = impl_Pack_K x0 x1 (fun r => K (.t [(true, [.int .i64 r.1.e, .int .i64 r.1.b, .int .i64 r.1.l]), (false, [.bool r.2])]) []) := by kernel_rfl
def impl_Pack_D : List V → Heap Row → Option (Int × Int)
  | [.c (.int .i64 v1), .c (.int .i64 v2)], [] => some (v1, v2)
  | _, _ => none
theorem impl_Pack_D_ok {vs : List V} {W : Heap Row} {a : Int × Int} (h : impl_Pack_D vs W = some a) : vs = [.c (.int .i64 (a.1)), .c (.int .i64 (a.2))] ∧ W = [] := by
  unfold impl_Pack_D at h
  split at h
  · simp at h; subst h; exact ⟨rfl, rfl⟩
  · simp at h
noncomputable def impl_Pack_C : Callee Row := ⟨[], fun _ vs W K => (impl_Pack_D vs W).bind fun a => (impl_Pack a.1 a.2).bind fun r => K (.t [(true, [.int .i64 r.1.e, .int .i64 r.1.b, .int .i64 r.1.l]), (false, [.bool r.2])]) []⟩
theorem impl_Pack_ok : CalleeOk Try.prog rowU 289 impl_Pack_C := by
  refine calleeP (nl := false) (m0 := 0) (T := [(250, impl_BoundsOk_C)]) (H := [(0, impl_Pack_L0_H)]) (TabOk.cons impl_BoundsOk_ok TabOk.nil) (by kernel_rfl) (by kernel_rfl) (fun p hp hb => by
    simp only [List.mem_cons, List.not_mem_nil, or_false] at hp
    subst hp
    exact impl_Pack_L0_ok hb) fun ρ vs W K r h => ?_
  obtain ⟨a, ha, h1⟩ := Option.bind_eq_some_iff.1 h
  clear h
  obtain ⟨rfl, rfl⟩ := impl_Pack_D_ok ha
  obtain ⟨q, hq, h2⟩ := Option.bind_eq_some_iff.1 h1
  exact ⟨_, _, h2, (impl_Pack_nf (a.1) (a.2) _ _).trans ((impl_Pack_bind (a.1) (a.2) _).trans (by rw [hq]; rfl))⟩
/-! loop.example/g00249/impl.Unpack -/
def impl_Unpack_K (x0 : GPacked) {ρ : Type} (K : Int × Int × Bool → Option ρ) : Option ρ :=
  Option.bind (impl_in x0.e 0 6) fun r1 =>
  cond ((!r1) == false)
    (Option.bind (impl_in x0.b 0 63) fun r2 =>
    cond ((!r2) == false)
      (Option.bind (impl_in x0.l 0 63) fun r3 =>
      cond (!r3)
        (K (0, 0, false))
        (cond (decide (0 ≤ x0.e)) (cond (decide (0 ≤ x0.e)) (K (w64 (x0.b * (pw2 64 x0.e)), mn 4096 (w64 ((w64 (x0.b + x0.l)) * (pw2 64 x0.e))), true)) none) none))
      (K (0, 0, false)))
    (K (0, 0, false))
def impl_Unpack (x0 : GPacked) : Option (Int × Int × Bool) := impl_Unpack_K x0 some
theorem impl_Unpack_bind (x0 : GPacked) {ρ : Type} (K : Int × Int × Bool → Option ρ) : impl_Unpack_K x0 K = (impl_Unpack x0).bind K := by
  simp only [impl_Unpack, impl_Unpack_K, Option.bind_assoc, Option.bind_some, Option.bind_none, cond_bind, sumK_bind]
noncomputable def impl_Unpack_E : Env Row := envN false 290 0 [(125, impl_in_C)] []
theorem impl_Unpack_nf (x0 : GPacked) (ρ : Type) (K : V → Heap Row → Option ρ) : evBody rowU impl_Unpack_E (bodyC 290) [.a [.int .i64 x0.e, .int .i64 x0.b, .int .i64 x0.l]] [] K = impl_Unpack_K x0 (fun r => K (.t [(false, [.int .i64 r.1]), (false, [.int .i64 r.2.1]), (false, [.bool r.2.2])]) []) := by kernel_rfl
def impl_Unpack_D : List V → Heap Row → Option (GPacked)
  | [.a (.int .i64 v1 :: .int .i64 v2 :: .int .i64 v3 :: [])], [] => some (⟨v1, v2, v3⟩)
  | _, _ => none
theorem impl_Unpack_D_ok {vs : List V} {W : Heap Row} {a : GPacked} (h : impl_Unpack_D vs W = some a) : vs = [.a [.int .i64 (a).e, .int .i64 (a).b, .int .i64 (a).l]] ∧ W = [] := by
  unfold impl_Unpack_D at h
  split at h
  · simp at h; subst h; exact ⟨rfl, rfl⟩
  · simp at h
def impl_Unpack_C : Callee Row := ⟨[], fun _ vs W K => (impl_Unpack_D vs W).bind fun a => (impl_Unpack a).bind fun r => K (.t [(false, [.int .i64 r.1]), (false, [.int .i64 r.2.1]), (false, [.bool r.2.2])]) []⟩
theorem impl_Unpack_ok : CalleeOk Try.prog rowU 290 impl_Unpack_C := by
  refine calleeP (nl := false) (m0 := 0) (T := [(125, impl_in_C)]) (H := []) (TabOk.cons impl_in_ok TabOk.nil) (by kernel_rfl) (by kernel_rfl) (fun p hp => nomatch hp) fun ρ vs W K r h => ?_
  obtain ⟨a, ha, h1⟩ := Option.bind_eq_some_iff.1 h
  clear h
  obtain ⟨rfl, rfl⟩ := impl_Unpack_D_ok ha
  obtain ⟨q, hq, h2⟩ := Option.bind_eq_some_iff.1 h1
  exact ⟨_, _, h2, (impl_Unpack_nf a _ _).trans ((impl_Unpack_bind a _).trans (by rw [hq]; rfl))⟩
/-! loop.example/g00249/impl.Wide -/
noncomputable def impl_Wide_K (x0 : Int) (x1 : Int) {ρ : Type} (K : Int × Int → Option ρ) : Option ρ :=
  Option.bind (impl_BoundsOk x0 x1) fun r1 =>
  cond (!r1)
    (K (0, 0))
    (Option.bind (impl_Pack x0 x1) fun r2 =>
    cond (!r2.2)
      (K (0, 4096))
      (Option.bind (impl_Unpack r2.1) fun r3 =>
      K (r3.1, r3.2.1)))
noncomputable def impl_Wide (x0 : Int) (x1 : Int) : Option (Int × Int) := impl_Wide_K x0 x1 some
theorem impl_Wide_bind (x0 : Int) (x1 : Int) {ρ : Type} (K : Int × Int → Option ρ) : impl_Wide_K x0 x1 K = (impl_Wide x0 x1).bind K := by
  simp only [impl_Wide, impl_Wide_K, Option.bind_assoc, Option.bind_some, Option.bind_none, cond_bind, sumK_bind]
noncomputable def impl_Wide_E : Env Row := envN false 249 0 [(250, impl_BoundsOk_C), (289, impl_Pack_C), (290, impl_Unpack_C)] []
theorem impl_Wide_nf (x0 : Int) (x1 : Int) (ρ : Type) (K : V → Heap Row → Option ρ) : evBody rowU impl_Wide_E (bodyC 249) [.c (.int .i64 x0), .c (.int .i64 x1)] [] K = impl_Wide_K x0 x1 (fun r => K (.t [(false, [.int .i64 r.1]), (false, [.int .i64 r.2])]) []) := by kernel_rfl
def impl_Wide_D : List V → Heap Row → Option (Int × Int)
  | [.c (.int .i64 v1), .c (.int .i64 v2)], [] => some (v1, v2)
  | _, _ => none
theorem impl_Wide_D_ok {vs : List V} {W : Heap Row} {a : Int × Int} (h : impl_Wide_D vs W = some a) : vs = [.c (.int .i64 (a.1)), .c (.int .i64 (a.2))] ∧ W = [] := by
  unfold impl_Wide_D at h
  split at h
  · simp at h; subst h; exact ⟨rfl, rfl⟩
  · simp at h
noncomputable def impl_Wide_C : Callee Row := ⟨[], fun _ vs W K => (impl_Wide_D vs W).bind fun a => (impl_Wide a.1 a.2).bind fun r => K (.t [(false, [.int .i64 r.1]), (false, [.int .i64 r.2])]) []⟩
theorem impl_Wide_ok : CalleeOk Try.prog rowU 249 impl_Wide_C := by
  refine calleeP (nl := false) (m0 := 0) (T := [(250, impl_BoundsOk_C), (289, impl_Pack_C), (290, impl_Unpack_C)]) (H := []) (TabOk.cons impl_BoundsOk_ok (TabOk.cons impl_Pack_ok (TabOk.cons impl_Unpack_ok TabOk.nil))) (by kernel_rfl) (by kernel_rfl) (fun p hp => nomatch hp) fun ρ vs W K r h => ?_
  obtain ⟨a, ha, h1⟩ := Option.bind_eq_some_iff.1 h
  clear h
  obtain ⟨rfl, rfl⟩ := impl_Wide_D_ok ha
  obtain ⟨q, hq, h2⟩ := Option.bind_eq_some_iff.1 h1
  exact ⟨_, _, h2, (impl_Wide_nf (a.1) (a.2) _ _).trans ((impl_Wide_bind (a.1) (a.2) _).trans (by rw [hq]; rfl))⟩
end Go.Eng
