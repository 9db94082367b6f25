/- Functions of the program, as the evaluator tells them: printed by a program of ours. -/
import Derived.Test.YtkgeojjgcffebaaOnlyLiveFS
set_option linter.unusedVariables false
set_option linter.unusedSimpArgs false
set_option maxRecDepth 20000
namespace Go.Eng
open Go.Proofs
/-! loop.example/g00249/laws.big -/
def laws_big_K (x0 : List Int) {ρ : Type} (K : Bool → Option ρ) : Option ρ :=
  K (decide ((((x0.length : Nat) : Int)) > 1048576))
def laws_big (x0 : List Int) : Option (Bool) := laws_big_K x0 some
theorem laws_big_bind (x0 : List Int) {ρ : Type} (K : Bool → Option ρ) : laws_big_K x0 K = (laws_big x0).bind K := by
  simp only [laws_big, laws_big_K, Option.bind_assoc, Option.bind_some, Option.bind_none, cond_bind, sumK_bind]
noncomputable def laws_big_E : Env Row := envN false 16 1 [] []
theorem laws_big_nf (x0 : List Int) (ρ : Type) (K : V → Heap Row → Option ρ) : evBody rowU laws_big_E (bodyC 16) [.c (.sl 0 0)] [⟨.row ⟨.byte, x0⟩, 0, 1⟩] K = laws_big_K x0 (fun r => K (.c (.bool r)) [⟨.row ⟨.byte, x0⟩, 0, 1⟩]) := by kernel_rfl
def laws_big_D : List V → Heap Row → Option (List Int)
  | [.c (.sl 0 0)], [⟨.row ⟨.byte, v1⟩, 0, 1⟩] => some (v1)
  | _, _ => none
theorem laws_big_D_ok {vs : List V} {W : Heap Row} {a : List Int} (h : laws_big_D vs W = some a) : vs = [.c (.sl 0 0)] ∧ W = [⟨.row ⟨.byte, a⟩, 0, 1⟩] := by
  unfold laws_big_D at h
  split at h
  · simp at h; subst h; exact ⟨rfl, rfl⟩
  · simp at h
def laws_big_C : Callee Row := ⟨[(false, 0)], fun _ vs W K => (laws_big_D vs W).bind fun a => (laws_big a).bind fun r => K (.c (.bool r)) [⟨.row ⟨.byte, a⟩, 0, 1⟩]⟩
theorem laws_big_ok : CalleeOk Try.prog rowU 16 laws_big_C := by
  refine calleeP (nl := false) (m0 := 1) (T := []) (H := []) TabOk.nil (by kernel_rfl) (by kernel_rfl) (fun p hp => nomatch hp) fun ρ vs W K r h => ?_
  obtain ⟨a, ha, h1⟩ := Option.bind_eq_some_iff.1 h
  clear h
  obtain ⟨rfl, rfl⟩ := laws_big_D_ok ha
  obtain ⟨q, hq, h2⟩ := Option.bind_eq_some_iff.1 h1
  exact ⟨_, _, h2, (laws_big_nf a _ _).trans ((laws_big_bind a _).trans (by rw [hq]; rfl))⟩
/-! loop.example/g00249/spec.l1New -/
noncomputable def spec_l1New_L0_K (l0 : List Int) (n1 : Int) (n2 : Int) {ρ : Type} (A : Int × Int → Option ρ) (X : Int → Option ρ) (R : Unit → Option ρ) : Option ρ :=
  cond ((decide (n2 < (((l0.length : Nat) : Int)))) == true)
    (cond (decide (n2 < 4000))
      (cond (decide (0 ≤ n2)) (cond (decide (n2 < (((l0.length : Nat) : Int)))) (A (bits .and .i64 (w64 ((w64 ((w64 (n1 * 131)) + (w64 (List.getD l0 (n2.toNat) 0)))) + 7)) 1073741823, w64 (n2 + 1))) none) none)
      (X n1))
    (X n1)
noncomputable def spec_l1New_L0_step (l0 : List Int) (s : Int × Int) : Option (Rnd (Int × Int) (Int) (Unit)) := spec_l1New_L0_K l0 (s.1) (s.2) (fun s => some (.again s)) (fun t => some (.exit t)) (fun k => some (.ret k))
theorem spec_l1New_L0_bind (l0 : List Int) (s : Int × Int) {ρ : Type} (A : Int × Int → Option ρ) (X : Int → Option ρ) (R : Unit → Option ρ) : spec_l1New_L0_K l0 (s.1) (s.2) A X R = (spec_l1New_L0_step l0 s).bind (rndE A X R) := by
  simp only [spec_l1New_L0_step, spec_l1New_L0_K, Option.bind_assoc, Option.bind_some, Option.bind_none, cond_bind, sumK_bind, rndE_again, rndE_exit, rndE_ret]
def spec_l1New_L0_st (p : List Int) (s : Int × Int) : List V × Heap Row := ([.c (.sl 0 0), .c (.int .i64 (s.1)), .c (.int .i64 (s.2))], [⟨.row ⟨.byte, p⟩, 0, 1⟩])
def spec_l1New_L0_so (p : List Int) (t : Int) : List V × Heap Row := ([.c (.sl 0 0), .c (.int .i64 (t))], [⟨.row ⟨.byte, p⟩, 0, 1⟩])
def spec_l1New_L0_D : List V → Heap Row → Option ((List Int) × (Int × Int))
  | [.c (.sl 0 0), .c (.int .i64 v1), .c (.int .i64 v2)], [⟨.row ⟨.byte, v3⟩, 0, 1⟩] => some ((v3), (v1, v2))
  | _, _ => none
theorem spec_l1New_L0_D_ok (vs : List V) (L : Heap Row) (p : List Int) (s : Int × Int) (h : spec_l1New_L0_D vs L = some (p, s)) : spec_l1New_L0_st p s = (vs, L) := by
  unfold spec_l1New_L0_D at h
  split at h
  · simp at h; obtain ⟨rfl, rfl⟩ := h; rfl
  · simp at h
noncomputable def spec_l1New_L0_H : LoopH Row := loopX [0, 3, 4] [0, 3] spec_l1New_L0_D (fun p => spec_l1New_L0_step p) spec_l1New_L0_so
theorem spec_l1New_L0_nf (p : List Int) (s : Int × Int) (ρ : Type) (again Kx Kr : List V → Heap Row → Option ρ) : evRound rowU (envOf 108 1 [] [(0, spec_l1New_L0_H)]) 0 spec_l1New_L0_H (loopC 108 0) again (spec_l1New_L0_st p s).1 (spec_l1New_L0_st p s).2 Kx Kr = spec_l1New_L0_K p (s.1) (s.2) (fun s => again (spec_l1New_L0_st p s).1 (spec_l1New_L0_st p s).2) (fun t => Kx (spec_l1New_L0_so p t).1 (spec_l1New_L0_so p t).2) (fun _ => none) := by kernel_rfl
theorem spec_l1New_L0_ok (hb : LoopsOk Try.prog rowU (envOf 108 1 [] [(0, spec_l1New_L0_H)]) (loopAt (codeP 108) 0)) : LoopOk Try.prog rowU (envOf 108 1 [] [(0, spec_l1New_L0_H)]) 0 (loopAt (codeP 108) 0) spec_l1New_L0_H :=
  loopX_ok tagOk mixed envNl (envT TabOk.nil) hb spec_l1New_L0_st spec_l1New_L0_D_ok fun p s ρ A Kx Kr => (spec_l1New_L0_nf p s ρ A Kx Kr).trans (spec_l1New_L0_bind p s _ _ _)
noncomputable def spec_l1New_K (x0 : List Int) {ρ : Type} (K : GL1Cur → Option ρ) : Option ρ :=
  Option.bind (runX (spec_l1New_L0_step x0) (w64 (19220 + (((x0.length : Nat) : Int))), 0)) fun t1 =>
  K (⟨x0, 0, t1⟩ : GL1Cur)
noncomputable def spec_l1New (x0 : List Int) : Option (GL1Cur) := spec_l1New_K x0 some
theorem spec_l1New_bind (x0 : List Int) {ρ : Type} (K : GL1Cur → Option ρ) : spec_l1New_K x0 K = (spec_l1New x0).bind K := by
  simp only [spec_l1New, spec_l1New_K, Option.bind_assoc, Option.bind_some, Option.bind_none, cond_bind, sumK_bind]
noncomputable def spec_l1New_E : Env Row := envN false 108 1 [] [(0, spec_l1New_L0_H)]
theorem spec_l1New_nf (x0 : List Int) (ρ : Type) (K : V → Heap Row → Option ρ) : evBody rowU spec_l1New_E (bodyC 108) [.c (.sl 0 0)] [⟨.row ⟨.byte, x0⟩, 0, 1⟩] K = spec_l1New_K x0 (fun r => K (.c (.ptr 1 0)) [⟨.row ⟨.byte, x0⟩, 0, 1⟩, ⟨.box [.sl 0 0, .int .i64 r.i, .int .i64 r.h], 0, 2⟩]) := by kernel_rfl
def spec_l1New_D : List V → Heap Row → Option (List Int)
  | [.c (.sl 0 0)], [⟨.row ⟨.byte, v1⟩, 0, 1⟩] => some (v1)
  | _, _ => none
theorem spec_l1New_D_ok {vs : List V} {W : Heap Row} {a : List Int} (h : spec_l1New_D vs W = some a) : vs = [.c (.sl 0 0)] ∧ W = [⟨.row ⟨.byte, a⟩, 0, 1⟩] := by
  unfold spec_l1New_D at h
  split at h
  · simp at h; subst h; exact ⟨rfl, rfl⟩
  · simp at h
noncomputable def spec_l1New_C : Callee Row := ⟨[(false, 0)], fun _ vs W K => (spec_l1New_D vs W).bind fun a => (spec_l1New a).bind fun r => K (.c (.ptr 1 0)) [⟨.row ⟨.byte, a⟩, 0, 1⟩, ⟨.box [.sl 0 0, .int .i64 r.i, .int .i64 r.h], 0, 2⟩]⟩
theorem spec_l1New_ok : CalleeOk Try.prog rowU 108 spec_l1New_C := by
  refine calleeP (nl := false) (m0 := 1) (T := []) (H := [(0, spec_l1New_L0_H)]) TabOk.nil (by kernel_rfl) (by kernel_rfl) (fun p hp hb => by
    simp only [List.mem_cons, List.not_mem_nil, or_false] at hp
    subst hp
    exact spec_l1New_L0_ok hb) fun ρ vs W K r h => ?_
  obtain ⟨a, ha, h1⟩ := Option.bind_eq_some_iff.1 h
  clear h
  obtain ⟨rfl, rfl⟩ := spec_l1New_D_ok ha
  obtain ⟨q, hq, h2⟩ := Option.bind_eq_some_iff.1 h1
  exact ⟨_, _, h2, (spec_l1New_nf a _ _).trans ((spec_l1New_bind a _).trans (by rw [hq]; rfl))⟩
/-! loop.example/g00249/spec.MemoryNew -/
def spec_MemoryNew_K  {ρ : Type} (K : GMemory → Option ρ) : Option ρ :=
  K (⟨List.replicate 24 (⟨0, false, (⟨0, 0, 0, 0⟩ : GKey)⟩ : GWord), List.replicate 24 false⟩ : GMemory)
def spec_MemoryNew  : Option (GMemory) := spec_MemoryNew_K  some
theorem spec_MemoryNew_bind  {ρ : Type} (K : GMemory → Option ρ) : spec_MemoryNew_K  K = (spec_MemoryNew ).bind K := by
  simp only [spec_MemoryNew, spec_MemoryNew_K, Option.bind_assoc, Option.bind_some, Option.bind_none, cond_bind, sumK_bind]
noncomputable def spec_MemoryNew_E : Env Row := envN false 189 0 [] []
theorem spec_MemoryNew_nf  (ρ : Type) (K : V → Heap Row → Option ρ) : evBody rowU spec_MemoryNew_E (bodyC 189) [] [] K = spec_MemoryNew_K  (fun r => K (.a [.sl 0 0, .sl 1 0]) [⟨.row ⟨.word, r.words⟩, 0, 2⟩, ⟨.row ⟨.bool, r.gone⟩, 0, 2⟩]) := by kernel_rfl
def spec_MemoryNew_D : List V → Heap Row → Option (Unit)
  | [], [] => some ()
  | _, _ => none
theorem spec_MemoryNew_D_ok {vs : List V} {W : Heap Row} {a : Unit} (h : spec_MemoryNew_D vs W = some a) : vs = [] ∧ W = [] := by
  unfold spec_MemoryNew_D at h
  split at h
  · exact ⟨rfl, rfl⟩
  · simp at h
def spec_MemoryNew_C : Callee Row := ⟨[], fun _ vs W K => (spec_MemoryNew_D vs W).bind fun a => (spec_MemoryNew).bind fun r => K (.a [.sl 0 0, .sl 1 0]) [⟨.row ⟨.word, r.words⟩, 0, 2⟩, ⟨.row ⟨.bool, r.gone⟩, 0, 2⟩]⟩
theorem spec_MemoryNew_ok : CalleeOk Try.prog rowU 189 spec_MemoryNew_C := by
  refine calleeP (nl := false) (m0 := 0) (T := []) (H := []) TabOk.nil (by kernel_rfl) (by kernel_rfl) (fun p hp => nomatch hp) fun ρ vs W K r h => ?_
  obtain ⟨a, ha, h1⟩ := Option.bind_eq_some_iff.1 h
  clear h
  obtain ⟨rfl, rfl⟩ := spec_MemoryNew_D_ok ha
  obtain ⟨q, hq, h2⟩ := Option.bind_eq_some_iff.1 h1
  exact ⟨_, _, h2, (spec_MemoryNew_nf  _ _).trans ((spec_MemoryNew_bind  _).trans (by rw [hq]; rfl))⟩
/-! loop.example/g00249/spec.HeapNew -/
def spec_HeapNew_K  {ρ : Type} (K : GHeap → Option ρ) : Option ρ :=
  Option.bind (spec_MemoryNew ) fun r1 =>
  K (⟨r1, [], []⟩ : GHeap)
def spec_HeapNew  : Option (GHeap) := spec_HeapNew_K  some
theorem spec_HeapNew_bind  {ρ : Type} (K : GHeap → Option ρ) : spec_HeapNew_K  K = (spec_HeapNew ).bind K := by
  simp only [spec_HeapNew, spec_HeapNew_K, Option.bind_assoc, Option.bind_some, Option.bind_none, cond_bind, sumK_bind]
noncomputable def spec_HeapNew_E : Env Row := envN false 211 0 [(189, spec_MemoryNew_C)] []
theorem spec_HeapNew_nf  (ρ : Type) (K : V → Heap Row → Option ρ) : evBody rowU spec_HeapNew_E (bodyC 211) [] [] K = spec_HeapNew_K  (fun r => K (.a [.sl 0 0, .sl 1 0, .sl 2 0, .sl 3 0]) [⟨.row ⟨.word, r.mem.words⟩, 0, 2⟩, ⟨.row ⟨.bool, r.mem.gone⟩, 0, 2⟩, ⟨.row ⟨.span, r.live⟩, 0, 2⟩, ⟨.row ⟨.span, r.waits⟩, 0, 2⟩]) := by kernel_rfl
def spec_HeapNew_D : List V → Heap Row → Option (Unit)
  | [], [] => some ()
  | _, _ => none
theorem spec_HeapNew_D_ok {vs : List V} {W : Heap Row} {a : Unit} (h : spec_HeapNew_D vs W = some a) : vs = [] ∧ W = [] := by
  unfold spec_HeapNew_D at h
  split at h
  · exact ⟨rfl, rfl⟩
  · simp at h
def spec_HeapNew_C : Callee Row := ⟨[], fun _ vs W K => (spec_HeapNew_D vs W).bind fun a => (spec_HeapNew).bind fun r => K (.a [.sl 0 0, .sl 1 0, .sl 2 0, .sl 3 0]) [⟨.row ⟨.word, r.mem.words⟩, 0, 2⟩, ⟨.row ⟨.bool, r.mem.gone⟩, 0, 2⟩, ⟨.row ⟨.span, r.live⟩, 0, 2⟩, ⟨.row ⟨.span, r.waits⟩, 0, 2⟩]⟩
theorem spec_HeapNew_ok : CalleeOk Try.prog rowU 211 spec_HeapNew_C := by
  refine calleeP (nl := false) (m0 := 0) (T := [(189, spec_MemoryNew_C)]) (H := []) (TabOk.cons spec_MemoryNew_ok TabOk.nil) (by kernel_rfl) (by kernel_rfl) (fun p hp => nomatch hp) fun ρ vs W K r h => ?_
  obtain ⟨a, ha, h1⟩ := Option.bind_eq_some_iff.1 h
  clear h
  obtain ⟨rfl, rfl⟩ := spec_HeapNew_D_ok ha
  obtain ⟨q, hq, h2⟩ := Option.bind_eq_some_iff.1 h1
  exact ⟨_, _, h2, (spec_HeapNew_nf  _ _).trans ((spec_HeapNew_bind  _).trans (by rw [hq]; rfl))⟩
/-! loop.example/g00249/spec.l1Byte -/
def spec_l1Byte_K (x0 : GL1Cur) {ρ : Type} (K : Int × Int × Int → Option ρ) : Option ρ :=
  cond (decide (x0.i < (((x0.b.length : Nat) : Int))))
    (cond (decide (0 ≤ x0.i)) (cond (decide (x0.i < (((x0.b.length : Nat) : Int)))) (K (bits .and .i64 (w64 ((bits .and .i64 (bits .xor .i64 (Int.fdiv (w64 ((w64 (x0.h * 6364136223846793005)) + 1442695040888963407)) 8589934592) (Int.fdiv (w64 ((w64 (x0.h * 6364136223846793005)) + 1442695040888963407)) 35184372088832)) 255) + (w64 (List.getD x0.b (x0.i.toNat) 0)))) 255, w64 (x0.i + 1), w64 ((w64 (x0.h * 6364136223846793005)) + 1442695040888963407))) none) none)
    (K (bits .and .i64 (bits .xor .i64 (Int.fdiv (w64 ((w64 (x0.h * 6364136223846793005)) + 1442695040888963407)) 8589934592) (Int.fdiv (w64 ((w64 (x0.h * 6364136223846793005)) + 1442695040888963407)) 35184372088832)) 255, x0.i, w64 ((w64 (x0.h * 6364136223846793005)) + 1442695040888963407)))
def spec_l1Byte (x0 : GL1Cur) : Option (Int × Int × Int) := spec_l1Byte_K x0 some
theorem spec_l1Byte_bind (x0 : GL1Cur) {ρ : Type} (K : Int × Int × Int → Option ρ) : spec_l1Byte_K x0 K = (spec_l1Byte x0).bind K := by
  simp only [spec_l1Byte, spec_l1Byte_K, Option.bind_assoc, Option.bind_some, Option.bind_none, cond_bind, sumK_bind]
noncomputable def spec_l1Byte_E : Env Row := envN false 194 2 [] []
theorem spec_l1Byte_nf (x0 : GL1Cur) (ρ : Type) (K : V → Heap Row → Option ρ) : evBody rowU spec_l1Byte_E (bodyC 194) [.c (.ptr 0 0)] [⟨.box [.sl 1 0, .int .i64 x0.i, .int .i64 x0.h], 0, 2⟩, ⟨.row ⟨.byte, x0.b⟩, 0, 1⟩] K = spec_l1Byte_K x0 (fun r => K (.c (.int .i64 r.1)) [⟨.box [.sl 1 0, .int .i64 r.2.1, .int .i64 r.2.2], 0, 2⟩, ⟨.row ⟨.byte, x0.b⟩, 0, 1⟩]) := by kernel_rfl
def spec_l1Byte_D : List V → Heap Row → Option (GL1Cur)
  | [.c (.ptr 0 0)], [⟨.box [.sl 1 0, .int .i64 v1, .int .i64 v2], 0, 2⟩, ⟨.row ⟨.byte, v3⟩, 0, 1⟩] => some (⟨v3, v1, v2⟩)
  | _, _ => none
theorem spec_l1Byte_D_ok {vs : List V} {W : Heap Row} {a : GL1Cur} (h : spec_l1Byte_D vs W = some a) : vs = [.c (.ptr 0 0)] ∧ W = [⟨.box [.sl 1 0, .int .i64 (a).i, .int .i64 (a).h], 0, 2⟩, ⟨.row ⟨.byte, (a).b⟩, 0, 1⟩] := by
  unfold spec_l1Byte_D at h
  split at h
  · simp at h; subst h; exact ⟨rfl, rfl⟩
  · simp at h
def spec_l1Byte_C : Callee Row := ⟨[(true, 3), (false, 0)], fun _ vs W K => (spec_l1Byte_D vs W).bind fun a => (spec_l1Byte a).bind fun r => K (.c (.int .i64 r.1)) [⟨.box [.sl 1 0, .int .i64 r.2.1, .int .i64 r.2.2], 0, 2⟩, ⟨.row ⟨.byte, (a).b⟩, 0, 1⟩]⟩
theorem spec_l1Byte_ok : CalleeOk Try.prog rowU 194 spec_l1Byte_C := by
  refine calleeP (nl := false) (m0 := 2) (T := []) (H := []) TabOk.nil (by kernel_rfl) (by kernel_rfl) (fun p hp => nomatch hp) fun ρ vs W K r h => ?_
  obtain ⟨a, ha, h1⟩ := Option.bind_eq_some_iff.1 h
  clear h
  obtain ⟨rfl, rfl⟩ := spec_l1Byte_D_ok ha
  obtain ⟨q, hq, h2⟩ := Option.bind_eq_some_iff.1 h1
  exact ⟨_, _, h2, (spec_l1Byte_nf a _ _).trans ((spec_l1Byte_bind a _).trans (by rw [hq]; rfl))⟩
/-! loop.example/g00249/spec.l1Below -/
def spec_l1Below_K (x0 : GL1Cur) (x1 : Int) {ρ : Type} (K : Int × Int × Int → Option ρ) : Option ρ :=
  cond (decide (x1 ≤ 0))
    (K (0, x0.i, x0.h))
    (cond (decide (x1 ≤ 256))
      (Option.bind (spec_l1Byte x0) fun r1 =>
      cond (x1 != 0) (K (Int.tmod r1.1 x1, r1.2.1, r1.2.2)) none)
      (Option.bind (spec_l1Byte x0) fun r2 =>
      Option.bind (spec_l1Byte (⟨x0.b, r2.2.1, r2.2.2⟩ : GL1Cur)) fun r3 =>
      Option.bind (spec_l1Byte (⟨x0.b, r3.2.1, r3.2.2⟩ : GL1Cur)) fun r4 =>
      Option.bind (spec_l1Byte (⟨x0.b, r4.2.1, r4.2.2⟩ : GL1Cur)) fun r5 =>
      cond (x1 != 0) (K (Int.tmod (w64 ((w64 ((w64 ((w64 (r2.1 * 16777216)) + (w64 (r3.1 * 65536)))) + (w64 (r4.1 * 256)))) + r5.1)) x1, r5.2.1, r5.2.2)) none))
def spec_l1Below (x0 : GL1Cur) (x1 : Int) : Option (Int × Int × Int) := spec_l1Below_K x0 x1 some
theorem spec_l1Below_bind (x0 : GL1Cur) (x1 : Int) {ρ : Type} (K : Int × Int × Int → Option ρ) : spec_l1Below_K x0 x1 K = (spec_l1Below x0 x1).bind K := by
  simp only [spec_l1Below, spec_l1Below_K, Option.bind_assoc, Option.bind_some, Option.bind_none, cond_bind, sumK_bind]
noncomputable def spec_l1Below_E : Env Row := envN false 110 2 [(194, spec_l1Byte_C)] []
theorem spec_l1Below_nf (x0 : GL1Cur) (x1 : Int) (ρ : Type) (K : V → Heap Row → Option ρ) : evBody rowU spec_l1Below_E (bodyC 110) [.c (.ptr 0 0), .c (.int .i64 x1)] [⟨.box [.sl 1 0, .int .i64 x0.i, .int .i64 x0.h], 0, 2⟩, ⟨.row ⟨.byte, x0.b⟩, 0, 1⟩] K = spec_l1Below_K x0 x1 (fun r => K (.c (.int .i64 r.1)) [⟨.box [.sl 1 0, .int .i64 r.2.1, .int .i64 r.2.2], 0, 2⟩, ⟨.row ⟨.byte, x0.b⟩, 0, 1⟩]) := by kernel_rfl
def spec_l1Below_D : List V → Heap Row → Option (GL1Cur × Int)
  | [.c (.ptr 0 0), .c (.int .i64 v1)], [⟨.box [.sl 1 0, .int .i64 v2, .int .i64 v3], 0, 2⟩, ⟨.row ⟨.byte, v4⟩, 0, 1⟩] => some (⟨v4, v2, v3⟩, v1)
  | _, _ => none
theorem spec_l1Below_D_ok {vs : List V} {W : Heap Row} {a : GL1Cur × Int} (h : spec_l1Below_D vs W = some a) : vs = [.c (.ptr 0 0), .c (.int .i64 (a.2))] ∧ W = [⟨.box [.sl 1 0, .int .i64 (a.1).i, .int .i64 (a.1).h], 0, 2⟩, ⟨.row ⟨.byte, (a.1).b⟩, 0, 1⟩] := by
  unfold spec_l1Below_D at h
  split at h
  · simp at h; subst h; exact ⟨rfl, rfl⟩
  · simp at h
def spec_l1Below_C : Callee Row := ⟨[(true, 3), (false, 0)], fun _ vs W K => (spec_l1Below_D vs W).bind fun a => (spec_l1Below a.1 a.2).bind fun r => K (.c (.int .i64 r.1)) [⟨.box [.sl 1 0, .int .i64 r.2.1, .int .i64 r.2.2], 0, 2⟩, ⟨.row ⟨.byte, (a.1).b⟩, 0, 1⟩]⟩
theorem spec_l1Below_ok : CalleeOk Try.prog rowU 110 spec_l1Below_C := by
  refine calleeP (nl := false) (m0 := 2) (T := [(194, spec_l1Byte_C)]) (H := []) (TabOk.cons spec_l1Byte_ok TabOk.nil) (by kernel_rfl) (by kernel_rfl) (fun p hp => nomatch hp) fun ρ vs W K r h => ?_
  obtain ⟨a, ha, h1⟩ := Option.bind_eq_some_iff.1 h
  clear h
  obtain ⟨rfl, rfl⟩ := spec_l1Below_D_ok ha
  obtain ⟨q, hq, h2⟩ := Option.bind_eq_some_iff.1 h1
  exact ⟨_, _, h2, (spec_l1Below_nf (a.1) (a.2) _ _).trans ((spec_l1Below_bind (a.1) (a.2) _).trans (by rw [hq]; rfl))⟩
/-! loop.example/g00249/spec.l8Copy -/
def spec_l8Copy_K (x0 : GMemory) {ρ : Type} (K : GMemory → Option ρ) : Option ρ :=
  cond (decide (((0 + (x0.words.length)) * 48) ≤ 140737488355328)) (cond (decide (((0 + (x0.gone.length)) * 1) ≤ 140737488355328)) (K (⟨[] ++ x0.words, [] ++ x0.gone⟩ : GMemory)) none) none
def spec_l8Copy (x0 : GMemory) : Option (GMemory) := spec_l8Copy_K x0 some
theorem spec_l8Copy_bind (x0 : GMemory) {ρ : Type} (K : GMemory → Option ρ) : spec_l8Copy_K x0 K = (spec_l8Copy x0).bind K := by
  simp only [spec_l8Copy, spec_l8Copy_K, Option.bind_assoc, Option.bind_some, Option.bind_none, cond_bind, sumK_bind]
noncomputable def spec_l8Copy_E : Env Row := envN false 231 2 [] []
theorem spec_l8Copy_nf (x0 : GMemory) (ρ : Type) (K : V → Heap Row → Option ρ) : evBody rowU spec_l8Copy_E (bodyC 231) [.a [.sl 0 0, .sl 1 0]] [⟨.row ⟨.word, x0.words⟩, 0, 1⟩, ⟨.row ⟨.bool, x0.gone⟩, 0, 1⟩] K = spec_l8Copy_K x0 (fun r => K (.a [.sl 2 0, .sl 3 0]) [⟨.row ⟨.word, x0.words⟩, 0, 1⟩, ⟨.row ⟨.bool, x0.gone⟩, 0, 1⟩, ⟨.row ⟨.word, r.words⟩, 0, 2⟩, ⟨.row ⟨.bool, r.gone⟩, 0, 2⟩]) := by kernel_rfl
def spec_l8Copy_D : List V → Heap Row → Option (GMemory)
  | [.a (.sl 0 0 :: .sl 1 0 :: [])], [⟨.row ⟨.word, v1⟩, 0, 1⟩, ⟨.row ⟨.bool, v2⟩, 0, 1⟩] => some (⟨v1, v2⟩)
  | _, _ => none
theorem spec_l8Copy_D_ok {vs : List V} {W : Heap Row} {a : GMemory} (h : spec_l8Copy_D vs W = some a) : vs = [.a [.sl 0 0, .sl 1 0]] ∧ W = [⟨.row ⟨.word, (a).words⟩, 0, 1⟩, ⟨.row ⟨.bool, (a).gone⟩, 0, 1⟩] := by
  unfold spec_l8Copy_D at h
  split at h
  · simp at h; subst h; exact ⟨rfl, rfl⟩
  · simp at h
def spec_l8Copy_C : Callee Row := ⟨[(false, 0), (false, 0)], fun _ vs W K => (spec_l8Copy_D vs W).bind fun a => (spec_l8Copy a).bind fun r => K (.a [.sl 2 0, .sl 3 0]) [⟨.row ⟨.word, (a).words⟩, 0, 1⟩, ⟨.row ⟨.bool, (a).gone⟩, 0, 1⟩, ⟨.row ⟨.word, r.words⟩, 0, 2⟩, ⟨.row ⟨.bool, r.gone⟩, 0, 2⟩]⟩
theorem spec_l8Copy_ok : CalleeOk Try.prog rowU 231 spec_l8Copy_C := by
  refine calleeP (nl := false) (m0 := 2) (T := []) (H := []) TabOk.nil (by kernel_rfl) (by kernel_rfl) (fun p hp => nomatch hp) fun ρ vs W K r h => ?_
  obtain ⟨a, ha, h1⟩ := Option.bind_eq_some_iff.1 h
  clear h
  obtain ⟨rfl, rfl⟩ := spec_l8Copy_D_ok ha
  obtain ⟨q, hq, h2⟩ := Option.bind_eq_some_iff.1 h1
  exact ⟨_, _, h2, (spec_l8Copy_nf a _ _).trans ((spec_l8Copy_bind a _).trans (by rw [hq]; rfl))⟩
/-! loop.example/g00249/spec.l23Copy -/
def spec_l23Copy_K (x0 : GHeap) {ρ : Type} (K : GHeap → Option ρ) : Option ρ :=
  Option.bind (spec_l8Copy x0.mem) fun r1 =>
  cond (decide (((0 + (x0.live.length)) * 16) ≤ 140737488355328)) (cond (decide (((0 + (x0.waits.length)) * 16) ≤ 140737488355328)) (K (⟨r1, [] ++ x0.live, [] ++ x0.waits⟩ : GHeap)) none) none
def spec_l23Copy (x0 : GHeap) : Option (GHeap) := spec_l23Copy_K x0 some
theorem spec_l23Copy_bind (x0 : GHeap) {ρ : Type} (K : GHeap → Option ρ) : spec_l23Copy_K x0 K = (spec_l23Copy x0).bind K := by
  simp only [spec_l23Copy, spec_l23Copy_K, Option.bind_assoc, Option.bind_some, Option.bind_none, cond_bind, sumK_bind]
noncomputable def spec_l23Copy_E : Env Row := envN false 168 4 [(231, spec_l8Copy_C)] []
theorem spec_l23Copy_nf (x0 : GHeap) (ρ : Type) (K : V → Heap Row → Option ρ) : evBody rowU spec_l23Copy_E (bodyC 168) [.a [.sl 0 0, .sl 1 0, .sl 2 0, .sl 3 0]] [⟨.row ⟨.word, x0.mem.words⟩, 0, 1⟩, ⟨.row ⟨.bool, x0.mem.gone⟩, 0, 1⟩, ⟨.row ⟨.span, x0.live⟩, 0, 1⟩, ⟨.row ⟨.span, x0.waits⟩, 0, 1⟩] K = spec_l23Copy_K x0 (fun r => K (.a [.sl 4 0, .sl 5 0, .sl 6 0, .sl 7 0]) [⟨.row ⟨.word, x0.mem.words⟩, 0, 1⟩, ⟨.row ⟨.bool, x0.mem.gone⟩, 0, 1⟩, ⟨.row ⟨.span, x0.live⟩, 0, 1⟩, ⟨.row ⟨.span, x0.waits⟩, 0, 1⟩, ⟨.row ⟨.word, r.mem.words⟩, 0, 2⟩, ⟨.row ⟨.bool, r.mem.gone⟩, 0, 2⟩, ⟨.row ⟨.span, r.live⟩, 0, 2⟩, ⟨.row ⟨.span, r.waits⟩, 0, 2⟩]) := by kernel_rfl
def spec_l23Copy_D : List V → Heap Row → Option (GHeap)
  | [.a (.sl 0 0 :: .sl 1 0 :: .sl 2 0 :: .sl 3 0 :: [])], [⟨.row ⟨.word, v1⟩, 0, 1⟩, ⟨.row ⟨.bool, v2⟩, 0, 1⟩, ⟨.row ⟨.span, v3⟩, 0, 1⟩, ⟨.row ⟨.span, v4⟩, 0, 1⟩] => some (⟨⟨v1, v2⟩, v3, v4⟩)
  | _, _ => none
theorem spec_l23Copy_D_ok {vs : List V} {W : Heap Row} {a : GHeap} (h : spec_l23Copy_D vs W = some a) : vs = [.a [.sl 0 0, .sl 1 0, .sl 2 0, .sl 3 0]] ∧ W = [⟨.row ⟨.word, (a).mem.words⟩, 0, 1⟩, ⟨.row ⟨.bool, (a).mem.gone⟩, 0, 1⟩, ⟨.row ⟨.span, (a).live⟩, 0, 1⟩, ⟨.row ⟨.span, (a).waits⟩, 0, 1⟩] := by
  unfold spec_l23Copy_D at h
  split at h
  · simp at h; subst h; exact ⟨rfl, rfl⟩
  · simp at h
def spec_l23Copy_C : Callee Row := ⟨[(false, 0), (false, 0), (false, 0), (false, 0)], fun _ vs W K => (spec_l23Copy_D vs W).bind fun a => (spec_l23Copy a).bind fun r => K (.a [.sl 4 0, .sl 5 0, .sl 6 0, .sl 7 0]) [⟨.row ⟨.word, (a).mem.words⟩, 0, 1⟩, ⟨.row ⟨.bool, (a).mem.gone⟩, 0, 1⟩, ⟨.row ⟨.span, (a).live⟩, 0, 1⟩, ⟨.row ⟨.span, (a).waits⟩, 0, 1⟩, ⟨.row ⟨.word, r.mem.words⟩, 0, 2⟩, ⟨.row ⟨.bool, r.mem.gone⟩, 0, 2⟩, ⟨.row ⟨.span, r.live⟩, 0, 2⟩, ⟨.row ⟨.span, r.waits⟩, 0, 2⟩]⟩
theorem spec_l23Copy_ok : CalleeOk Try.prog rowU 168 spec_l23Copy_C := by
  refine calleeP (nl := false) (m0 := 4) (T := [(231, spec_l8Copy_C)]) (H := []) (TabOk.cons spec_l8Copy_ok TabOk.nil) (by kernel_rfl) (by kernel_rfl) (fun p hp => nomatch hp) fun ρ vs W K r h => ?_
  obtain ⟨a, ha, h1⟩ := Option.bind_eq_some_iff.1 h
  clear h
  obtain ⟨rfl, rfl⟩ := spec_l23Copy_D_ok ha
  obtain ⟨q, hq, h2⟩ := Option.bind_eq_some_iff.1 h1
  exact ⟨_, _, h2, (spec_l23Copy_nf a _ _).trans ((spec_l23Copy_bind a _).trans (by rw [hq]; rfl))⟩
/-! loop.example/g00249/spec.l1In -/
def spec_l1In_K (x0 : Int) (x1 : Int) (x2 : Int) {ρ : Type} (K : Bool → Option ρ) : Option ρ :=
  cond ((decide (x0 ≥ x1)) == true)
    (K (decide (x0 ≤ x2)))
    (K false)
def spec_l1In (x0 : Int) (x1 : Int) (x2 : Int) : Option (Bool) := spec_l1In_K x0 x1 x2 some
theorem spec_l1In_bind (x0 : Int) (x1 : Int) (x2 : Int) {ρ : Type} (K : Bool → Option ρ) : spec_l1In_K x0 x1 x2 K = (spec_l1In x0 x1 x2).bind K := by
  simp only [spec_l1In, spec_l1In_K, Option.bind_assoc, Option.bind_some, Option.bind_none, cond_bind, sumK_bind]
noncomputable def spec_l1In_E : Env Row := envN false 160 0 [] []
theorem spec_l1In_nf (x0 : Int) (x1 : Int) (x2 : Int) (ρ : Type) (K : V → Heap Row → Option ρ) : evBody rowU spec_l1In_E (bodyC 160) [.c (.int .i64 x0), .c (.int .i64 x1), .c (.int .i64 x2)] [] K = spec_l1In_K x0 x1 x2 (fun r => K (.c (.bool r)) []) := by kernel_rfl
def spec_l1In_D : List V → Heap Row → Option (Int × Int × Int)
  | [.c (.int .i64 v1), .c (.int .i64 v2), .c (.int .i64 v3)], [] => some (v1, v2, v3)
  | _, _ => none
theorem spec_l1In_D_ok {vs : List V} {W : Heap Row} {a : Int × Int × Int} (h : spec_l1In_D vs W = some a) : vs = [.c (.int .i64 (a.1)), .c (.int .i64 (a.2.1)), .c (.int .i64 (a.2.2))] ∧ W = [] := by
  unfold spec_l1In_D at h
  split at h
  · simp at h; subst h; exact ⟨rfl, rfl⟩
  · simp at h
def spec_l1In_C : Callee Row := ⟨[], fun _ vs W K => (spec_l1In_D vs W).bind fun a => (spec_l1In a.1 a.2.1 a.2.2).bind fun r => K (.c (.bool r)) []⟩
theorem spec_l1In_ok : CalleeOk Try.prog rowU 160 spec_l1In_C := by
  refine calleeP (nl := false) (m0 := 0) (T := []) (H := []) TabOk.nil (by kernel_rfl) (by kernel_rfl) (fun p hp => nomatch hp) fun ρ vs W K r h => ?_
  obtain ⟨a, ha, h1⟩ := Option.bind_eq_some_iff.1 h
  clear h
  obtain ⟨rfl, rfl⟩ := spec_l1In_D_ok ha
  obtain ⟨q, hq, h2⟩ := Option.bind_eq_some_iff.1 h1
  exact ⟨_, _, h2, (spec_l1In_nf (a.1) (a.2.1) (a.2.2) _ _).trans ((spec_l1In_bind (a.1) (a.2.1) (a.2.2) _).trans (by rw [hq]; rfl))⟩
/-! loop.example/g00249/spec.BoundsOk -/
def spec_BoundsOk_K (x0 : Int) (x1 : Int) {ρ : Type} (K : Bool → Option ρ) : Option ρ :=
  Option.bind (spec_l1In x0 0 4096) fun r1 =>
  cond (r1 == true)
    (Option.bind (spec_l1In x1 0 4096) fun r2 =>
    cond (r2 == true)
      (K (decide (x0 ≤ x1)))
      (K false))
    (K false)
def spec_BoundsOk (x0 : Int) (x1 : Int) : Option (Bool) := spec_BoundsOk_K x0 x1 some
theorem spec_BoundsOk_bind (x0 : Int) (x1 : Int) {ρ : Type} (K : Bool → Option ρ) : spec_BoundsOk_K x0 x1 K = (spec_BoundsOk x0 x1).bind K := by
  simp only [spec_BoundsOk, spec_BoundsOk_K, Option.bind_assoc, Option.bind_some, Option.bind_none, cond_bind, sumK_bind]
noncomputable def spec_BoundsOk_E : Env Row := envN false 254 0 [(160, spec_l1In_C)] []
theorem spec_BoundsOk_nf (x0 : Int) (x1 : Int) (ρ : Type) (K : V → Heap Row → Option ρ) : evBody rowU spec_BoundsOk_E (bodyC 254) [.c (.int .i64 x0), .c (.int .i64 x1)] [] K = spec_BoundsOk_K x0 x1 (fun r => K (.c (.bool r)) []) := by kernel_rfl
def spec_BoundsOk_D : List V → Heap Row → Option (Int × Int)
  | [.c (.int .i64 v1), .c (.int .i64 v2)], [] => some (v1, v2)
  | _, _ => none
theorem spec_BoundsOk_D_ok {vs : List V} {W : Heap Row} {a : Int × Int} (h : spec_BoundsOk_D vs W = some a) : vs = [.c (.int .i64 (a.1)), .c (.int .i64 (a.2))] ∧ W = [] := by
  unfold spec_BoundsOk_D at h
  split at h
  · simp at h; subst h; exact ⟨rfl, rfl⟩
  · simp at h
def spec_BoundsOk_C : Callee Row := ⟨[], fun _ vs W K => (spec_BoundsOk_D vs W).bind fun a => (spec_BoundsOk a.1 a.2).bind fun r => K (.c (.bool r)) []⟩
theorem spec_BoundsOk_ok : CalleeOk Try.prog rowU 254 spec_BoundsOk_C := by
  refine calleeP (nl := false) (m0 := 0) (T := [(160, spec_l1In_C)]) (H := []) (TabOk.cons spec_l1In_ok TabOk.nil) (by kernel_rfl) (by kernel_rfl) (fun p hp => nomatch hp) fun ρ vs W K r h => ?_
  obtain ⟨a, ha, h1⟩ := Option.bind_eq_some_iff.1 h
  clear h
  obtain ⟨rfl, rfl⟩ := spec_BoundsOk_D_ok ha
  obtain ⟨q, hq, h2⟩ := Option.bind_eq_some_iff.1 h1
  exact ⟨_, _, h2, (spec_BoundsOk_nf (a.1) (a.2) _ _).trans ((spec_BoundsOk_bind (a.1) (a.2) _).trans (by rw [hq]; rfl))⟩
/-! loop.example/g00249/spec.Pack -/
noncomputable def spec_Pack_L0_K (n3 : Int) (n4 : Int) (n5 : Int) {ρ : Type} (A : Int → Option ρ) (X : Unit → Option ρ) (R : Int × Int × Int → Option ρ) : Option ρ :=
  cond (decide (n5 ≤ 6))
    (cond (decide (0 ≤ n5)) (cond (decide (0 ≤ n5)) (cond (decide (0 ≤ n5)) (cond (decide (0 ≤ n5)) (cond ((decide ((Int.fdiv n3 (pw2 64 n5)) ≤ 63)) == true)
      (cond (decide ((Int.fdiv (w64 ((w64 ((w64 (n4 - (w64 ((Int.fdiv n3 (pw2 64 n5)) * (pw2 64 n5))))) + (w64 (1 * (pw2 64 n5))))) - 1)) (pw2 64 n5)) ≤ 63))
        (R (n5, Int.fdiv n3 (pw2 64 n5), Int.fdiv (w64 ((w64 ((w64 (n4 - (w64 ((Int.fdiv n3 (pw2 64 n5)) * (pw2 64 n5))))) + (w64 (1 * (pw2 64 n5))))) - 1)) (pw2 64 n5)))
        (A (w64 (n5 + 1))))
      (A (w64 (n5 + 1)))) none) none) none) none)
    (X ())
noncomputable def spec_Pack_L0_step (n3 : Int) (n4 : Int) (s : Int) : Option (Rnd (Int) (Unit) (Int × Int × Int)) := spec_Pack_L0_K n3 n4 s (fun s => some (.again s)) (fun t => some (.exit t)) (fun k => some (.ret k))
theorem spec_Pack_L0_bind (n3 : Int) (n4 : Int) (s : Int) {ρ : Type} (A : Int → Option ρ) (X : Unit → Option ρ) (R : Int × Int × Int → Option ρ) : spec_Pack_L0_K n3 n4 s A X R = (spec_Pack_L0_step n3 n4 s).bind (rndE A X R) := by
  simp only [spec_Pack_L0_step, spec_Pack_L0_K, Option.bind_assoc, Option.bind_some, Option.bind_none, cond_bind, sumK_bind, rndE_again, rndE_exit, rndE_ret]
def spec_Pack_L0_st (p : Int × Int) (s : Int) : List V × Heap Row := ([.c (.int .i64 (p.1)), .c (.int .i64 (p.2)), .c (.ptr 0 0), .c (.int .i64 (s))], [⟨.box [.int .i64 0, .int .i64 0, .int .i64 0], 0, 2⟩])
def spec_Pack_L0_so (p : Int × Int) (t : Unit) : List V × Heap Row := ([.c (.ptr 0 0)], [⟨.box [.int .i64 0, .int .i64 0, .int .i64 0], 0, 2⟩])
def spec_Pack_L0_sr (p : Int × Int) (k : Int × Int × Int) : List V × Heap Row := ([.c (.ptr 0 0), .c (.bool true)], [⟨.box [.int .i64 (k).1, .int .i64 (k).2.1, .int .i64 (k).2.2], 0, 2⟩])
def spec_Pack_L0_D : List V → Heap Row → Option ((Int × Int) × (Int))
  | [.c (.int .i64 v1), .c (.int .i64 v2), .c (.ptr 0 0), .c (.int .i64 v3)], [⟨.box [.int .i64 0, .int .i64 0, .int .i64 0], 0, 2⟩] => some ((v1, v2), (v3))
  | _, _ => none
theorem spec_Pack_L0_D_ok (vs : List V) (L : Heap Row) (p : Int × Int) (s : Int) (h : spec_Pack_L0_D vs L = some (p, s)) : spec_Pack_L0_st p s = (vs, L) := by
  unfold spec_Pack_L0_D at h
  split at h
  · simp at h; obtain ⟨rfl, rfl⟩ := h; rfl
  · simp at h
noncomputable def spec_Pack_L0_H : LoopH Row := loopR [0, 1, 4, 6] [4] spec_Pack_L0_D (fun p => spec_Pack_L0_step (p.1) (p.2)) spec_Pack_L0_so spec_Pack_L0_sr
theorem spec_Pack_L0_nf (p : Int × Int) (s : Int) (ρ : Type) (again Kx Kr : List V → Heap Row → Option ρ) : evRound rowU (envOf 292 0 [(254, spec_BoundsOk_C)] [(0, spec_Pack_L0_H)]) 0 spec_Pack_L0_H (loopC 292 0) again (spec_Pack_L0_st p s).1 (spec_Pack_L0_st p s).2 Kx Kr = spec_Pack_L0_K (p.1) (p.2) s (fun s => again (spec_Pack_L0_st p s).1 (spec_Pack_L0_st p s).2) (fun t => Kx (spec_Pack_L0_so p t).1 (spec_Pack_L0_so p t).2) (fun k => Kr (spec_Pack_L0_sr p k).1 (spec_Pack_L0_sr p k).2) := by kernel_rfl
theorem spec_Pack_L0_ok (hb : LoopsOk Try.prog rowU (envOf 292 0 [(254, spec_BoundsOk_C)] [(0, spec_Pack_L0_H)]) (loopAt (codeP 292) 0)) : LoopOk Try.prog rowU (envOf 292 0 [(254, spec_BoundsOk_C)] [(0, spec_Pack_L0_H)]) 0 (loopAt (codeP 292) 0) spec_Pack_L0_H :=
  loopR_ok tagOk mixed envNl (envT (TabOk.cons spec_BoundsOk_ok TabOk.nil)) hb spec_Pack_L0_st spec_Pack_L0_D_ok fun p s ρ A Kx Kr => (spec_Pack_L0_nf p s ρ A Kx Kr).trans (spec_Pack_L0_bind (p.1) (p.2) s _ _ _)
noncomputable def spec_Pack_K (x0 : Int) (x1 : Int) {ρ : Type} (K : GPacked × Bool → Option ρ) : Option ρ :=
  Option.bind (spec_BoundsOk x0 x1) fun r1 =>
  cond (!r1)
    (K ((⟨0, 0, 0⟩ : GPacked), false))
    (Option.bind (runL (spec_Pack_L0_step x0 x1) 0) fun ot2 => sumK ot2
      (fun t2 => K ((⟨0, 0, 0⟩ : GPacked), false))
      (fun k3 => K ((⟨k3.1, k3.2.1, k3.2.2⟩ : GPacked), true)))
noncomputable def spec_Pack (x0 : Int) (x1 : Int) : Option (GPacked × Bool) := spec_Pack_K x0 x1 some
theorem spec_Pack_bind (x0 : Int) (x1 : Int) {ρ : Type} (K : GPacked × Bool → Option ρ) : spec_Pack_K x0 x1 K = (spec_Pack x0 x1).bind K := by
  simp only [spec_Pack, spec_Pack_K, Option.bind_assoc, Option.bind_some, Option.bind_none, cond_bind, sumK_bind]
noncomputable def spec_Pack_E : Env Row := envN false 292 0 [(254, spec_BoundsOk_C)] [(0, spec_Pack_L0_H)]
theorem spec_Pack_nf (x0 : Int) (x1 : Int) (ρ : Type) (K : V → Heap Row → Option ρ) : evBody rowU spec_Pack_E (bodyC 292) [.c (.int .i64 x0), .c (.int .i64 x1)] [] K = spec_Pack_K x0 x1 (fun r => K (.t [(true, [.int .i64 r.1.e, .int .i64 r.1.b, .int .i64 r.1.l]), (false, [.bool r.2])]) []) := by kernel_rfl
def spec_Pack_D : List V → Heap Row → Option (Int × Int)
  | [.c (.int .i64 v1), .c (.int .i64 v2)], [] => some (v1, v2)
  | _, _ => none
theorem spec_Pack_D_ok {vs : List V} {W : Heap Row} {a : Int × Int} (h : spec_Pack_D vs W = some a) : vs = [.c (.int .i64 (a.1)), .c (.int .i64 (a.2))] ∧ W = [] := by
  unfold spec_Pack_D at h
  split at h
  · simp at h; subst h; exact ⟨rfl, rfl⟩
  · simp at h
noncomputable def spec_Pack_C : Callee Row := ⟨[], fun _ vs W K => (spec_Pack_D vs W).bind fun a => (spec_Pack a.1 a.2).bind fun r => K (.t [(true, [.int .i64 r.1.e, .int .i64 r.1.b, .int .i64 r.1.l]), (false, [.bool r.2])]) []⟩
theorem spec_Pack_ok : CalleeOk Try.prog rowU 292 spec_Pack_C := by
  refine calleeP (nl := false) (m0 := 0) (T := [(254, spec_BoundsOk_C)]) (H := [(0, spec_Pack_L0_H)]) (TabOk.cons spec_BoundsOk_ok TabOk.nil) (by kernel_rfl) (by kernel_rfl) (fun p hp hb => by
    simp only [List.mem_cons, List.not_mem_nil, or_false] at hp
    subst hp
    exact spec_Pack_L0_ok hb) fun ρ vs W K r h => ?_
  obtain ⟨a, ha, h1⟩ := Option.bind_eq_some_iff.1 h
  clear h
  obtain ⟨rfl, rfl⟩ := spec_Pack_D_ok ha
  obtain ⟨q, hq, h2⟩ := Option.bind_eq_some_iff.1 h1
  exact ⟨_, _, h2, (spec_Pack_nf (a.1) (a.2) _ _).trans ((spec_Pack_bind (a.1) (a.2) _).trans (by rw [hq]; rfl))⟩
/-! loop.example/g00249/spec.l1Min -/
def spec_l1Min_K (x0 : Int) (x1 : Int) {ρ : Type} (K : Int → Option ρ) : Option ρ :=
  cond (decide (x0 < x1))
    (K x0)
    (K x1)
def spec_l1Min (x0 : Int) (x1 : Int) : Option (Int) := spec_l1Min_K x0 x1 some
theorem spec_l1Min_bind (x0 : Int) (x1 : Int) {ρ : Type} (K : Int → Option ρ) : spec_l1Min_K x0 x1 K = (spec_l1Min x0 x1).bind K := by
  simp only [spec_l1Min, spec_l1Min_K, Option.bind_assoc, Option.bind_some, Option.bind_none, cond_bind, sumK_bind]
noncomputable def spec_l1Min_E : Env Row := envN false 119 0 [] []
theorem spec_l1Min_nf (x0 : Int) (x1 : Int) (ρ : Type) (K : V → Heap Row → Option ρ) : evBody rowU spec_l1Min_E (bodyC 119) [.c (.int .i64 x0), .c (.int .i64 x1)] [] K = spec_l1Min_K x0 x1 (fun r => K (.c (.int .i64 r)) []) := by kernel_rfl
def spec_l1Min_D : List V → Heap Row → Option (Int × Int)
  | [.c (.int .i64 v1), .c (.int .i64 v2)], [] => some (v1, v2)
  | _, _ => none
theorem spec_l1Min_D_ok {vs : List V} {W : Heap Row} {a : Int × Int} (h : spec_l1Min_D vs W = some a) : vs = [.c (.int .i64 (a.1)), .c (.int .i64 (a.2))] ∧ W = [] := by
  unfold spec_l1Min_D at h
  split at h
  · simp at h; subst h; exact ⟨rfl, rfl⟩
  · simp at h
def spec_l1Min_C : Callee Row := ⟨[], fun _ vs W K => (spec_l1Min_D vs W).bind fun a => (spec_l1Min a.1 a.2).bind fun r => K (.c (.int .i64 r)) []⟩
theorem spec_l1Min_ok : CalleeOk Try.prog rowU 119 spec_l1Min_C := by
  refine calleeP (nl := false) (m0 := 0) (T := []) (H := []) TabOk.nil (by kernel_rfl) (by kernel_rfl) (fun p hp => nomatch hp) fun ρ vs W K r h => ?_
  obtain ⟨a, ha, h1⟩ := Option.bind_eq_some_iff.1 h
  clear h
  obtain ⟨rfl, rfl⟩ := spec_l1Min_D_ok ha
  obtain ⟨q, hq, h2⟩ := Option.bind_eq_some_iff.1 h1
  exact ⟨_, _, h2, (spec_l1Min_nf (a.1) (a.2) _ _).trans ((spec_l1Min_bind (a.1) (a.2) _).trans (by rw [hq]; rfl))⟩
/-! loop.example/g00249/spec.Unpack -/
def spec_Unpack_K (x0 : GPacked) {ρ : Type} (K : Int × Int × Bool → Option ρ) : Option ρ :=
  Option.bind (spec_l1In x0.e 0 6) fun r1 =>
  cond ((!r1) == false)
    (Option.bind (spec_l1In x0.b 0 63) fun r2 =>
    cond ((!r2) == false)
      (Option.bind (spec_l1In x0.l 0 63) fun r3 =>
      cond (!r3)
        (K (0, 0, false))
        (cond (decide (0 ≤ x0.e)) (cond (decide (0 ≤ x0.e)) (Option.bind (spec_l1Min (w64 ((w64 (x0.b + x0.l)) * (pw2 64 x0.e))) 4096) fun r4 =>
        K (w64 (x0.b * (pw2 64 x0.e)), r4, true)) none) none))
      (K (0, 0, false)))
    (K (0, 0, false))
def spec_Unpack (x0 : GPacked) : Option (Int × Int × Bool) := spec_Unpack_K x0 some
theorem spec_Unpack_bind (x0 : GPacked) {ρ : Type} (K : Int × Int × Bool → Option ρ) : spec_Unpack_K x0 K = (spec_Unpack x0).bind K := by
  simp only [spec_Unpack, spec_Unpack_K, Option.bind_assoc, Option.bind_some, Option.bind_none, cond_bind, sumK_bind]
noncomputable def spec_Unpack_E : Env Row := envN false 293 0 [(160, spec_l1In_C), (119, spec_l1Min_C)] []
theorem spec_Unpack_nf (x0 : GPacked) (ρ : Type) (K : V → Heap Row → Option ρ) : evBody rowU spec_Unpack_E (bodyC 293) [.a [.int .i64 x0.e, .int .i64 x0.b, .int .i64 x0.l]] [] K = spec_Unpack_K x0 (fun r => K (.t [(false, [.int .i64 r.1]), (false, [.int .i64 r.2.1]), (false, [.bool r.2.2])]) []) := by kernel_rfl
def spec_Unpack_D : List V → Heap Row → Option (GPacked)
  | [.a (.int .i64 v1 :: .int .i64 v2 :: .int .i64 v3 :: [])], [] => some (⟨v1, v2, v3⟩)
  | _, _ => none
theorem spec_Unpack_D_ok {vs : List V} {W : Heap Row} {a : GPacked} (h : spec_Unpack_D vs W = some a) : vs = [.a [.int .i64 (a).e, .int .i64 (a).b, .int .i64 (a).l]] ∧ W = [] := by
  unfold spec_Unpack_D at h
  split at h
  · simp at h; subst h; exact ⟨rfl, rfl⟩
  · simp at h
def spec_Unpack_C : Callee Row := ⟨[], fun _ vs W K => (spec_Unpack_D vs W).bind fun a => (spec_Unpack a).bind fun r => K (.t [(false, [.int .i64 r.1]), (false, [.int .i64 r.2.1]), (false, [.bool r.2.2])]) []⟩
theorem spec_Unpack_ok : CalleeOk Try.prog rowU 293 spec_Unpack_C := by
  refine calleeP (nl := false) (m0 := 0) (T := [(160, spec_l1In_C), (119, spec_l1Min_C)]) (H := []) (TabOk.cons spec_l1In_ok (TabOk.cons spec_l1Min_ok TabOk.nil)) (by kernel_rfl) (by kernel_rfl) (fun p hp => nomatch hp) fun ρ vs W K r h => ?_
  obtain ⟨a, ha, h1⟩ := Option.bind_eq_some_iff.1 h
  clear h
  obtain ⟨rfl, rfl⟩ := spec_Unpack_D_ok ha
  obtain ⟨q, hq, h2⟩ := Option.bind_eq_some_iff.1 h1
  exact ⟨_, _, h2, (spec_Unpack_nf a _ _).trans ((spec_Unpack_bind a _).trans (by rw [hq]; rfl))⟩
/-! loop.example/g00249/spec.Wide -/
noncomputable def spec_Wide_K (x0 : Int) (x1 : Int) {ρ : Type} (K : Int × Int → Option ρ) : Option ρ :=
  Option.bind (spec_Pack x0 x1) fun r1 =>
  cond (!r1.2)
    (Option.bind (spec_BoundsOk x0 x1) fun r2 =>
    cond r2
      (K (0, 4096))
      (K (0, 0)))
    (Option.bind (spec_Unpack r1.1) fun r3 =>
    K (r3.1, r3.2.1))
noncomputable def spec_Wide (x0 : Int) (x1 : Int) : Option (Int × Int) := spec_Wide_K x0 x1 some
theorem spec_Wide_bind (x0 : Int) (x1 : Int) {ρ : Type} (K : Int × Int → Option ρ) : spec_Wide_K x0 x1 K = (spec_Wide x0 x1).bind K := by
  simp only [spec_Wide, spec_Wide_K, Option.bind_assoc, Option.bind_some, Option.bind_none, cond_bind, sumK_bind]
noncomputable def spec_Wide_E : Env Row := envN false 256 0 [(254, spec_BoundsOk_C), (292, spec_Pack_C), (293, spec_Unpack_C)] []
theorem spec_Wide_nf (x0 : Int) (x1 : Int) (ρ : Type) (K : V → Heap Row → Option ρ) : evBody rowU spec_Wide_E (bodyC 256) [.c (.int .i64 x0), .c (.int .i64 x1)] [] K = spec_Wide_K x0 x1 (fun r => K (.t [(false, [.int .i64 r.1]), (false, [.int .i64 r.2])]) []) := by kernel_rfl
def spec_Wide_D : List V → Heap Row → Option (Int × Int)
  | [.c (.int .i64 v1), .c (.int .i64 v2)], [] => some (v1, v2)
  | _, _ => none
theorem spec_Wide_D_ok {vs : List V} {W : Heap Row} {a : Int × Int} (h : spec_Wide_D vs W = some a) : vs = [.c (.int .i64 (a.1)), .c (.int .i64 (a.2))] ∧ W = [] := by
  unfold spec_Wide_D at h
  split at h
  · simp at h; subst h; exact ⟨rfl, rfl⟩
  · simp at h
noncomputable def spec_Wide_C : Callee Row := ⟨[], fun _ vs W K => (spec_Wide_D vs W).bind fun a => (spec_Wide a.1 a.2).bind fun r => K (.t [(false, [.int .i64 r.1]), (false, [.int .i64 r.2])]) []⟩
theorem spec_Wide_ok : CalleeOk Try.prog rowU 256 spec_Wide_C := by
  refine calleeP (nl := false) (m0 := 0) (T := [(254, spec_BoundsOk_C), (292, spec_Pack_C), (293, spec_Unpack_C)]) (H := []) (TabOk.cons spec_BoundsOk_ok (TabOk.cons spec_Pack_ok (TabOk.cons spec_Unpack_ok TabOk.nil))) (by kernel_rfl) (by kernel_rfl) (fun p hp => nomatch hp) fun ρ vs W K r h => ?_
  obtain ⟨a, ha, h1⟩ := Option.bind_eq_some_iff.1 h
  clear h
  obtain ⟨rfl, rfl⟩ := spec_Wide_D_ok ha
  obtain ⟨q, hq, h2⟩ := Option.bind_eq_some_iff.1 h1
  exact ⟨_, _, h2, (spec_Wide_nf (a.1) (a.2) _ _).trans ((spec_Wide_bind (a.1) (a.2) _).trans (by rw [hq]; rfl))⟩
/-! loop.example/g00249/spec.Exact -/
noncomputable def spec_Exact_K (x0 : Int) (x1 : Int) {ρ : Type} (K : Bool → Option ρ) : Option ρ :=
  Option.bind (spec_Wide x0 x1) fun r1 =>
  Option.bind (spec_BoundsOk x0 x1) fun r2 =>
  cond (r2 == true)
    (cond ((r1.1 == x0) == true)
      (K (r1.2 == x1))
      (K false))
    (K false)
noncomputable def spec_Exact (x0 : Int) (x1 : Int) : Option (Bool) := spec_Exact_K x0 x1 some
theorem spec_Exact_bind (x0 : Int) (x1 : Int) {ρ : Type} (K : Bool → Option ρ) : spec_Exact_K x0 x1 K = (spec_Exact x0 x1).bind K := by
  simp only [spec_Exact, spec_Exact_K, Option.bind_assoc, Option.bind_some, Option.bind_none, cond_bind, sumK_bind]
noncomputable def spec_Exact_E : Env Row := envN false 248 0 [(254, spec_BoundsOk_C), (256, spec_Wide_C)] []
theorem spec_Exact_nf (x0 : Int) (x1 : Int) (ρ : Type) (K : V → Heap Row → Option ρ) : evBody rowU spec_Exact_E (bodyC 248) [.c (.int .i64 x0), .c (.int .i64 x1)] [] K = spec_Exact_K x0 x1 (fun r => K (.c (.bool r)) []) := by kernel_rfl
def spec_Exact_D : List V → Heap Row → Option (Int × Int)
  | [.c (.int .i64 v1), .c (.int .i64 v2)], [] => some (v1, v2)
  | _, _ => none
theorem spec_Exact_D_ok {vs : List V} {W : Heap Row} {a : Int × Int} (h : spec_Exact_D vs W = some a) : vs = [.c (.int .i64 (a.1)), .c (.int .i64 (a.2))] ∧ W = [] := by
  unfold spec_Exact_D at h
  split at h
  · simp at h; subst h; exact ⟨rfl, rfl⟩
  · simp at h
noncomputable def spec_Exact_C : Callee Row := ⟨[], fun _ vs W K => (spec_Exact_D vs W).bind fun a => (spec_Exact a.1 a.2).bind fun r => K (.c (.bool r)) []⟩
theorem spec_Exact_ok : CalleeOk Try.prog rowU 248 spec_Exact_C := by
  refine calleeP (nl := false) (m0 := 0) (T := [(254, spec_BoundsOk_C), (256, spec_Wide_C)]) (H := []) (TabOk.cons spec_BoundsOk_ok (TabOk.cons spec_Wide_ok TabOk.nil)) (by kernel_rfl) (by kernel_rfl) (fun p hp => nomatch hp) fun ρ vs W K r h => ?_
  obtain ⟨a, ha, h1⟩ := Option.bind_eq_some_iff.1 h
  clear h
  obtain ⟨rfl, rfl⟩ := spec_Exact_D_ok ha
  obtain ⟨q, hq, h2⟩ := Option.bind_eq_some_iff.1 h1
  exact ⟨_, _, h2, (spec_Exact_nf (a.1) (a.2) _ _).trans ((spec_Exact_bind (a.1) (a.2) _).trans (by rw [hq]; rfl))⟩
/-! loop.example/g00249/spec.KeyOk -/
noncomputable def spec_KeyOk_K (x0 : GKey) {ρ : Type} (K : Bool → Option ρ) : Option ρ :=
  Option.bind (spec_Exact x0.base x0.top) fun r1 =>
  cond (r1 == true)
    (Option.bind (spec_l1In x0.perms 0 63) fun r2 =>
    cond (r2 == true)
      (Option.bind (spec_l1In x0.seal_ 0 7) fun r3 =>
      K r3)
      (K false))
    (K false)
noncomputable def spec_KeyOk (x0 : GKey) : Option (Bool) := spec_KeyOk_K x0 some
theorem spec_KeyOk_bind (x0 : GKey) {ρ : Type} (K : Bool → Option ρ) : spec_KeyOk_K x0 K = (spec_KeyOk x0).bind K := by
  simp only [spec_KeyOk, spec_KeyOk_K, Option.bind_assoc, Option.bind_some, Option.bind_none, cond_bind, sumK_bind]
noncomputable def spec_KeyOk_E : Env Row := envN false 197 0 [(160, spec_l1In_C), (248, spec_Exact_C)] []
theorem spec_KeyOk_nf (x0 : GKey) (ρ : Type) (K : V → Heap Row → Option ρ) : evBody rowU spec_KeyOk_E (bodyC 197) [.a [.int .i64 x0.base, .int .i64 x0.top, .int .i64 x0.perms, .int .i64 x0.seal_]] [] K = spec_KeyOk_K x0 (fun r => K (.c (.bool r)) []) := by kernel_rfl
def spec_KeyOk_D : List V → Heap Row → Option (GKey)
  | [.a (.int .i64 v1 :: .int .i64 v2 :: .int .i64 v3 :: .int .i64 v4 :: [])], [] => some (⟨v1, v2, v3, v4⟩)
  | _, _ => none
theorem spec_KeyOk_D_ok {vs : List V} {W : Heap Row} {a : GKey} (h : spec_KeyOk_D vs W = some a) : vs = [.a [.int .i64 (a).base, .int .i64 (a).top, .int .i64 (a).perms, .int .i64 (a).seal_]] ∧ W = [] := by
  unfold spec_KeyOk_D at h
  split at h
  · simp at h; subst h; exact ⟨rfl, rfl⟩
  · simp at h
noncomputable def spec_KeyOk_C : Callee Row := ⟨[], fun _ vs W K => (spec_KeyOk_D vs W).bind fun a => (spec_KeyOk a).bind fun r => K (.c (.bool r)) []⟩
theorem spec_KeyOk_ok : CalleeOk Try.prog rowU 197 spec_KeyOk_C := by
  refine calleeP (nl := false) (m0 := 0) (T := [(160, spec_l1In_C), (248, spec_Exact_C)]) (H := []) (TabOk.cons spec_l1In_ok (TabOk.cons spec_Exact_ok TabOk.nil)) (by kernel_rfl) (by kernel_rfl) (fun p hp => nomatch hp) fun ρ vs W K r h => ?_
  obtain ⟨a, ha, h1⟩ := Option.bind_eq_some_iff.1 h
  clear h
  obtain ⟨rfl, rfl⟩ := spec_KeyOk_D_ok ha
  obtain ⟨q, hq, h2⟩ := Option.bind_eq_some_iff.1 h1
  exact ⟨_, _, h2, (spec_KeyOk_nf a _ _).trans ((spec_KeyOk_bind a _).trans (by rw [hq]; rfl))⟩
/-! loop.example/g00249/spec.WordOk -/
noncomputable def spec_WordOk_K (x0 : GWord) {ρ : Type} (K : Bool → Option ρ) : Option ρ :=
  Option.bind (spec_l1In x0.n 0 65535) fun r1 =>
  cond (r1 == true)
    (cond (x0.is == true)
      (Option.bind (spec_KeyOk x0.key) fun r2 =>
      cond (r2 == false)
        (cond ((!x0.is) == true)
          (K ((x0.key.base == 0) && ((x0.key.top == 0) && ((x0.key.perms == 0) && ((x0.key.seal_ == 0) && true)))))
          (K false))
        (K true))
      (cond ((!x0.is) == true)
        (K ((x0.key.base == 0) && ((x0.key.top == 0) && ((x0.key.perms == 0) && ((x0.key.seal_ == 0) && true)))))
        (K false)))
    (K false)
noncomputable def spec_WordOk (x0 : GWord) : Option (Bool) := spec_WordOk_K x0 some
theorem spec_WordOk_bind (x0 : GWord) {ρ : Type} (K : Bool → Option ρ) : spec_WordOk_K x0 K = (spec_WordOk x0).bind K := by
  simp only [spec_WordOk, spec_WordOk_K, Option.bind_assoc, Option.bind_some, Option.bind_none, cond_bind, sumK_bind]
noncomputable def spec_WordOk_E : Env Row := envN false 117 0 [(160, spec_l1In_C), (197, spec_KeyOk_C)] []
theorem spec_WordOk_nf (x0 : GWord) (ρ : Type) (K : V → Heap Row → Option ρ) : evBody rowU spec_WordOk_E (bodyC 117) [.a [.int .i64 x0.n, .bool x0.is, .int .i64 x0.key.base, .int .i64 x0.key.top, .int .i64 x0.key.perms, .int .i64 x0.key.seal_]] [] K = spec_WordOk_K x0 (fun r => K (.c (.bool r)) []) := by kernel_rfl
def spec_WordOk_D : List V → Heap Row → Option (GWord)
  | [.a (.int .i64 v1 :: .bool v2 :: .int .i64 v3 :: .int .i64 v4 :: .int .i64 v5 :: .int .i64 v6 :: [])], [] => some (⟨v1, v2, ⟨v3, v4, v5, v6⟩⟩)
  | _, _ => none
theorem spec_WordOk_D_ok {vs : List V} {W : Heap Row} {a : GWord} (h : spec_WordOk_D vs W = some a) : vs = [.a [.int .i64 (a).n, .bool (a).is, .int .i64 (a).key.base, .int .i64 (a).key.top, .int .i64 (a).key.perms, .int .i64 (a).key.seal_]] ∧ W = [] := by
  unfold spec_WordOk_D at h
  split at h
  · simp at h; subst h; exact ⟨rfl, rfl⟩
  · simp at h
noncomputable def spec_WordOk_C : Callee Row := ⟨[], fun _ vs W K => (spec_WordOk_D vs W).bind fun a => (spec_WordOk a).bind fun r => K (.c (.bool r)) []⟩
theorem spec_WordOk_ok : CalleeOk Try.prog rowU 117 spec_WordOk_C := by
  refine calleeP (nl := false) (m0 := 0) (T := [(160, spec_l1In_C), (197, spec_KeyOk_C)]) (H := []) (TabOk.cons spec_l1In_ok (TabOk.cons spec_KeyOk_ok TabOk.nil)) (by kernel_rfl) (by kernel_rfl) (fun p hp => nomatch hp) fun ρ vs W K r h => ?_
  obtain ⟨a, ha, h1⟩ := Option.bind_eq_some_iff.1 h
  clear h
  obtain ⟨rfl, rfl⟩ := spec_WordOk_D_ok ha
  obtain ⟨q, hq, h2⟩ := Option.bind_eq_some_iff.1 h1
  exact ⟨_, _, h2, (spec_WordOk_nf a _ _).trans ((spec_WordOk_bind a _).trans (by rw [hq]; rfl))⟩
/-! loop.example/g00249/spec.MemoryOk -/
noncomputable def spec_MemoryOk_L0_K (l0 : List GWord) (l1 : List Bool) (n2 : Int) {ρ : Type} (A : Int → Option ρ) (X : Unit → Option ρ) (R : Unit → Option ρ) : Option ρ :=
  cond (decide (n2 < 24))
    (cond (decide (0 ≤ n2)) (cond (decide (n2 < (((l0.length : Nat) : Int)))) (Option.bind (spec_WordOk (List.getD l0 (n2.toNat) (default))) fun r1 =>
    cond (!r1)
      (R ())
      (A (w64 (n2 + 1)))) none) none)
    (X ())
noncomputable def spec_MemoryOk_L0_step (l0 : List GWord) (l1 : List Bool) (s : Int) : Option (Rnd (Int) (Unit) (Unit)) := spec_MemoryOk_L0_K l0 l1 s (fun s => some (.again s)) (fun t => some (.exit t)) (fun k => some (.ret k))
theorem spec_MemoryOk_L0_bind (l0 : List GWord) (l1 : List Bool) (s : Int) {ρ : Type} (A : Int → Option ρ) (X : Unit → Option ρ) (R : Unit → Option ρ) : spec_MemoryOk_L0_K l0 l1 s A X R = (spec_MemoryOk_L0_step l0 l1 s).bind (rndE A X R) := by
  simp only [spec_MemoryOk_L0_step, spec_MemoryOk_L0_K, Option.bind_assoc, Option.bind_some, Option.bind_none, cond_bind, sumK_bind, rndE_again, rndE_exit, rndE_ret]
def spec_MemoryOk_L0_st (p : List GWord × List Bool) (s : Int) : List V × Heap Row := ([.c (.ptr 2 0), .c (.int .i64 (s))], [⟨.row ⟨.word, p.1⟩, 0, 1⟩, ⟨.row ⟨.bool, p.2⟩, 0, 1⟩, ⟨.box [.sl 0 0, .sl 1 0], 0, 2⟩])
def spec_MemoryOk_L0_so (p : List GWord × List Bool) (t : Unit) : List V × Heap Row := ([], [⟨.row ⟨.word, p.1⟩, 0, 1⟩, ⟨.row ⟨.bool, p.2⟩, 0, 1⟩])
def spec_MemoryOk_L0_sr (p : List GWord × List Bool) (k : Unit) : List V × Heap Row := ([.c (.bool false)], [⟨.row ⟨.word, p.1⟩, 0, 1⟩, ⟨.row ⟨.bool, p.2⟩, 0, 1⟩])
def spec_MemoryOk_L0_D : List V → Heap Row → Option ((List GWord × List Bool) × (Int))
  | [.c (.ptr 2 0), .c (.int .i64 v1)], [⟨.row ⟨.word, v2⟩, 0, 1⟩, ⟨.row ⟨.bool, v3⟩, 0, 1⟩, ⟨.box [.sl 0 0, .sl 1 0], 0, 2⟩] => some ((v2, v3), (v1))
  | _, _ => none
theorem spec_MemoryOk_L0_D_ok (vs : List V) (L : Heap Row) (p : List GWord × List Bool) (s : Int) (h : spec_MemoryOk_L0_D vs L = some (p, s)) : spec_MemoryOk_L0_st p s = (vs, L) := by
  unfold spec_MemoryOk_L0_D at h
  split at h
  · simp at h; obtain ⟨rfl, rfl⟩ := h; rfl
  · simp at h
noncomputable def spec_MemoryOk_L0_H : LoopH Row := loopR [1, 3] [] spec_MemoryOk_L0_D (fun p => spec_MemoryOk_L0_step (p.1) (p.2)) spec_MemoryOk_L0_so spec_MemoryOk_L0_sr
theorem spec_MemoryOk_L0_nf (p : List GWord × List Bool) (s : Int) (ρ : Type) (again Kx Kr : List V → Heap Row → Option ρ) : evRound rowU (envOf 116 2 [(117, spec_WordOk_C)] [(0, spec_MemoryOk_L0_H)]) 0 spec_MemoryOk_L0_H (loopC 116 0) again (spec_MemoryOk_L0_st p s).1 (spec_MemoryOk_L0_st p s).2 Kx Kr = spec_MemoryOk_L0_K (p.1) (p.2) s (fun s => again (spec_MemoryOk_L0_st p s).1 (spec_MemoryOk_L0_st p s).2) (fun t => Kx (spec_MemoryOk_L0_so p t).1 (spec_MemoryOk_L0_so p t).2) (fun k => Kr (spec_MemoryOk_L0_sr p k).1 (spec_MemoryOk_L0_sr p k).2) := by kernel_rfl
theorem spec_MemoryOk_L0_ok (hb : LoopsOk Try.prog rowU (envOf 116 2 [(117, spec_WordOk_C)] [(0, spec_MemoryOk_L0_H)]) (loopAt (codeP 116) 0)) : LoopOk Try.prog rowU (envOf 116 2 [(117, spec_WordOk_C)] [(0, spec_MemoryOk_L0_H)]) 0 (loopAt (codeP 116) 0) spec_MemoryOk_L0_H :=
  loopR_ok tagOk mixed envNl (envT (TabOk.cons spec_WordOk_ok TabOk.nil)) hb spec_MemoryOk_L0_st spec_MemoryOk_L0_D_ok fun p s ρ A Kx Kr => (spec_MemoryOk_L0_nf p s ρ A Kx Kr).trans (spec_MemoryOk_L0_bind (p.1) (p.2) s _ _ _)
noncomputable def spec_MemoryOk_K (x0 : GMemory) {ρ : Type} (K : Bool → Option ρ) : Option ρ :=
  cond (((((x0.words.length : Nat) : Int)) != 24) == false)
    (cond ((((x0.gone.length : Nat) : Int)) != 24)
      (K false)
      (Option.bind (runL (spec_MemoryOk_L0_step x0.words x0.gone) 0) fun ot2 => sumK ot2
        (fun t2 => K true)
        (fun k3 => K false)))
    (K false)
noncomputable def spec_MemoryOk (x0 : GMemory) : Option (Bool) := spec_MemoryOk_K x0 some
theorem spec_MemoryOk_bind (x0 : GMemory) {ρ : Type} (K : Bool → Option ρ) : spec_MemoryOk_K x0 K = (spec_MemoryOk x0).bind K := by
  simp only [spec_MemoryOk, spec_MemoryOk_K, Option.bind_assoc, Option.bind_some, Option.bind_none, cond_bind, sumK_bind]
noncomputable def spec_MemoryOk_E : Env Row := envN false 116 2 [(117, spec_WordOk_C)] [(0, spec_MemoryOk_L0_H)]
theorem spec_MemoryOk_nf (x0 : GMemory) (ρ : Type) (K : V → Heap Row → Option ρ) : evBody rowU spec_MemoryOk_E (bodyC 116) [.a [.sl 0 0, .sl 1 0]] [⟨.row ⟨.word, x0.words⟩, 0, 1⟩, ⟨.row ⟨.bool, x0.gone⟩, 0, 1⟩] K = spec_MemoryOk_K x0 (fun r => K (.c (.bool r)) [⟨.row ⟨.word, x0.words⟩, 0, 1⟩, ⟨.row ⟨.bool, x0.gone⟩, 0, 1⟩]) := by kernel_rfl
def spec_MemoryOk_D : List V → Heap Row → Option (GMemory)
  | [.a (.sl 0 0 :: .sl 1 0 :: [])], [⟨.row ⟨.word, v1⟩, 0, 1⟩, ⟨.row ⟨.bool, v2⟩, 0, 1⟩] => some (⟨v1, v2⟩)
  | _, _ => none
theorem spec_MemoryOk_D_ok {vs : List V} {W : Heap Row} {a : GMemory} (h : spec_MemoryOk_D vs W = some a) : vs = [.a [.sl 0 0, .sl 1 0]] ∧ W = [⟨.row ⟨.word, (a).words⟩, 0, 1⟩, ⟨.row ⟨.bool, (a).gone⟩, 0, 1⟩] := by
  unfold spec_MemoryOk_D at h
  split at h
  · simp at h; subst h; exact ⟨rfl, rfl⟩
  · simp at h
noncomputable def spec_MemoryOk_C : Callee Row := ⟨[(false, 0), (false, 0)], fun _ vs W K => (spec_MemoryOk_D vs W).bind fun a => (spec_MemoryOk a).bind fun r => K (.c (.bool r)) [⟨.row ⟨.word, (a).words⟩, 0, 1⟩, ⟨.row ⟨.bool, (a).gone⟩, 0, 1⟩]⟩
theorem spec_MemoryOk_ok : CalleeOk Try.prog rowU 116 spec_MemoryOk_C := by
  refine calleeP (nl := false) (m0 := 2) (T := [(117, spec_WordOk_C)]) (H := [(0, spec_MemoryOk_L0_H)]) (TabOk.cons spec_WordOk_ok TabOk.nil) (by kernel_rfl) (by kernel_rfl) (fun p hp hb => by
    simp only [List.mem_cons, List.not_mem_nil, or_false] at hp
    subst hp
    exact spec_MemoryOk_L0_ok hb) fun ρ vs W K r h => ?_
  obtain ⟨a, ha, h1⟩ := Option.bind_eq_some_iff.1 h
  clear h
  obtain ⟨rfl, rfl⟩ := spec_MemoryOk_D_ok ha
  obtain ⟨q, hq, h2⟩ := Option.bind_eq_some_iff.1 h1
  exact ⟨_, _, h2, (spec_MemoryOk_nf a _ _).trans ((spec_MemoryOk_bind a _).trans (by rw [hq]; rfl))⟩
/-! loop.example/g00249/spec.l23Spans -/
noncomputable def spec_l23Spans_L0_K (l0 : List GSpan) (n1 : Int) {ρ : Type} (A : Int → Option ρ) (X : Unit → Option ρ) (R : Unit → Option ρ) : Option ρ :=
  cond (decide (n1 < (((l0.length : Nat) : Int))))
    (cond (decide (0 ≤ n1)) (cond (decide (n1 < (((l0.length : Nat) : Int)))) (Option.bind (spec_l1In (List.getD l0 (n1.toNat) (default)).at_ 0 23) fun r1 =>
    cond ((!r1) == false)
      (cond (decide (0 ≤ n1)) (cond (decide (n1 < (((l0.length : Nat) : Int)))) (cond (decide (0 ≤ n1)) (cond (decide (n1 < (((l0.length : Nat) : Int)))) (Option.bind (spec_l1In (List.getD l0 (n1.toNat) (default)).len 1 (w64 (24 - (List.getD l0 (n1.toNat) (default)).at_))) fun r2 =>
      cond ((!r2) == false)
        (cond ((decide (n1 > 0)) == true)
          (cond (decide (0 ≤ (w64 (n1 - 1)))) (cond (decide ((w64 (n1 - 1)) < (((l0.length : Nat) : Int)))) (cond (decide (0 ≤ n1)) (cond (decide (n1 < (((l0.length : Nat) : Int)))) (cond (decide ((List.getD l0 ((w64 (n1 - 1)).toNat) (default)).at_ ≥ (List.getD l0 (n1.toNat) (default)).at_))
            (R ())
            (A (w64 (n1 + 1)))) none) none) none) none)
          (A (w64 (n1 + 1))))
        (R ())) none) none) none) none)
      (R ())) none) none)
    (X ())
noncomputable def spec_l23Spans_L0_step (l0 : List GSpan) (s : Int) : Option (Rnd (Int) (Unit) (Unit)) := spec_l23Spans_L0_K l0 s (fun s => some (.again s)) (fun t => some (.exit t)) (fun k => some (.ret k))
theorem spec_l23Spans_L0_bind (l0 : List GSpan) (s : Int) {ρ : Type} (A : Int → Option ρ) (X : Unit → Option ρ) (R : Unit → Option ρ) : spec_l23Spans_L0_K l0 s A X R = (spec_l23Spans_L0_step l0 s).bind (rndE A X R) := by
  simp only [spec_l23Spans_L0_step, spec_l23Spans_L0_K, Option.bind_assoc, Option.bind_some, Option.bind_none, cond_bind, sumK_bind, rndE_again, rndE_exit, rndE_ret]
def spec_l23Spans_L0_st (p : List GSpan) (s : Int) : List V × Heap Row := ([.c (.sl 0 0), .c (.int .i64 (s))], [⟨.row ⟨.span, p⟩, 0, 1⟩])
def spec_l23Spans_L0_so (p : List GSpan) (t : Unit) : List V × Heap Row := ([], [⟨.row ⟨.span, p⟩, 0, 1⟩])
def spec_l23Spans_L0_sr (p : List GSpan) (k : Unit) : List V × Heap Row := ([.c (.bool false)], [⟨.row ⟨.span, p⟩, 0, 1⟩])
def spec_l23Spans_L0_D : List V → Heap Row → Option ((List GSpan) × (Int))
  | [.c (.sl 0 0), .c (.int .i64 v1)], [⟨.row ⟨.span, v2⟩, 0, 1⟩] => some ((v2), (v1))
  | _, _ => none
theorem spec_l23Spans_L0_D_ok (vs : List V) (L : Heap Row) (p : List GSpan) (s : Int) (h : spec_l23Spans_L0_D vs L = some (p, s)) : spec_l23Spans_L0_st p s = (vs, L) := by
  unfold spec_l23Spans_L0_D at h
  split at h
  · simp at h; obtain ⟨rfl, rfl⟩ := h; rfl
  · simp at h
noncomputable def spec_l23Spans_L0_H : LoopH Row := loopR [0, 3] [] spec_l23Spans_L0_D (fun p => spec_l23Spans_L0_step p) spec_l23Spans_L0_so spec_l23Spans_L0_sr
theorem spec_l23Spans_L0_nf (p : List GSpan) (s : Int) (ρ : Type) (again Kx Kr : List V → Heap Row → Option ρ) : evRound rowU (envOf 202 1 [(160, spec_l1In_C)] [(0, spec_l23Spans_L0_H)]) 0 spec_l23Spans_L0_H (loopC 202 0) again (spec_l23Spans_L0_st p s).1 (spec_l23Spans_L0_st p s).2 Kx Kr = spec_l23Spans_L0_K p s (fun s => again (spec_l23Spans_L0_st p s).1 (spec_l23Spans_L0_st p s).2) (fun t => Kx (spec_l23Spans_L0_so p t).1 (spec_l23Spans_L0_so p t).2) (fun k => Kr (spec_l23Spans_L0_sr p k).1 (spec_l23Spans_L0_sr p k).2) := by kernel_rfl
theorem spec_l23Spans_L0_ok (hb : LoopsOk Try.prog rowU (envOf 202 1 [(160, spec_l1In_C)] [(0, spec_l23Spans_L0_H)]) (loopAt (codeP 202) 0)) : LoopOk Try.prog rowU (envOf 202 1 [(160, spec_l1In_C)] [(0, spec_l23Spans_L0_H)]) 0 (loopAt (codeP 202) 0) spec_l23Spans_L0_H :=
  loopR_ok tagOk mixed envNl (envT (TabOk.cons spec_l1In_ok TabOk.nil)) hb spec_l23Spans_L0_st spec_l23Spans_L0_D_ok fun p s ρ A Kx Kr => (spec_l23Spans_L0_nf p s ρ A Kx Kr).trans (spec_l23Spans_L0_bind p s _ _ _)
noncomputable def spec_l23Spans_K (x0 : List GSpan) {ρ : Type} (K : Bool → Option ρ) : Option ρ :=
  Option.bind (runL (spec_l23Spans_L0_step x0) 0) fun ot3 => sumK ot3
    (fun t3 => K true)
    (fun k4 => K false)
noncomputable def spec_l23Spans (x0 : List GSpan) : Option (Bool) := spec_l23Spans_K x0 some
theorem spec_l23Spans_bind (x0 : List GSpan) {ρ : Type} (K : Bool → Option ρ) : spec_l23Spans_K x0 K = (spec_l23Spans x0).bind K := by
  simp only [spec_l23Spans, spec_l23Spans_K, Option.bind_assoc, Option.bind_some, Option.bind_none, cond_bind, sumK_bind]
noncomputable def spec_l23Spans_E : Env Row := envN false 202 1 [(160, spec_l1In_C)] [(0, spec_l23Spans_L0_H)]
theorem spec_l23Spans_nf (x0 : List GSpan) (ρ : Type) (K : V → Heap Row → Option ρ) : evBody rowU spec_l23Spans_E (bodyC 202) [.c (.sl 0 0)] [⟨.row ⟨.span, x0⟩, 0, 1⟩] K = spec_l23Spans_K x0 (fun r => K (.c (.bool r)) [⟨.row ⟨.span, x0⟩, 0, 1⟩]) := by kernel_rfl
def spec_l23Spans_D : List V → Heap Row → Option (List GSpan)
  | [.c (.sl 0 0)], [⟨.row ⟨.span, v1⟩, 0, 1⟩] => some (v1)
  | _, _ => none
theorem spec_l23Spans_D_ok {vs : List V} {W : Heap Row} {a : List GSpan} (h : spec_l23Spans_D vs W = some a) : vs = [.c (.sl 0 0)] ∧ W = [⟨.row ⟨.span, a⟩, 0, 1⟩] := by
  unfold spec_l23Spans_D at h
  split at h
  · simp at h; subst h; exact ⟨rfl, rfl⟩
  · simp at h
noncomputable def spec_l23Spans_C : Callee Row := ⟨[(false, 0)], fun _ vs W K => (spec_l23Spans_D vs W).bind fun a => (spec_l23Spans a).bind fun r => K (.c (.bool r)) [⟨.row ⟨.span, a⟩, 0, 1⟩]⟩
theorem spec_l23Spans_ok : CalleeOk Try.prog rowU 202 spec_l23Spans_C := by
  refine calleeP (nl := false) (m0 := 1) (T := [(160, spec_l1In_C)]) (H := [(0, spec_l23Spans_L0_H)]) (TabOk.cons spec_l1In_ok TabOk.nil) (by kernel_rfl) (by kernel_rfl) (fun p hp hb => by
    simp only [List.mem_cons, List.not_mem_nil, or_false] at hp
    subst hp
    exact spec_l23Spans_L0_ok hb) fun ρ vs W K r h => ?_
  obtain ⟨a, ha, h1⟩ := Option.bind_eq_some_iff.1 h
  clear h
  obtain ⟨rfl, rfl⟩ := spec_l23Spans_D_ok ha
  obtain ⟨q, hq, h2⟩ := Option.bind_eq_some_iff.1 h1
  exact ⟨_, _, h2, (spec_l23Spans_nf a _ _).trans ((spec_l23Spans_bind a _).trans (by rw [hq]; rfl))⟩
/-! loop.example/g00249/spec.l1Max -/
def spec_l1Max_K (x0 : Int) (x1 : Int) {ρ : Type} (K : Int → Option ρ) : Option ρ :=
  cond (decide (x0 > x1))
    (K x0)
    (K x1)
def spec_l1Max (x0 : Int) (x1 : Int) : Option (Int) := spec_l1Max_K x0 x1 some
theorem spec_l1Max_bind (x0 : Int) (x1 : Int) {ρ : Type} (K : Int → Option ρ) : spec_l1Max_K x0 x1 K = (spec_l1Max x0 x1).bind K := by
  simp only [spec_l1Max, spec_l1Max_K, Option.bind_assoc, Option.bind_some, Option.bind_none, cond_bind, sumK_bind]
noncomputable def spec_l1Max_E : Env Row := envN false 201 0 [] []
theorem spec_l1Max_nf (x0 : Int) (x1 : Int) (ρ : Type) (K : V → Heap Row → Option ρ) : evBody rowU spec_l1Max_E (bodyC 201) [.c (.int .i64 x0), .c (.int .i64 x1)] [] K = spec_l1Max_K x0 x1 (fun r => K (.c (.int .i64 r)) []) := by kernel_rfl
def spec_l1Max_D : List V → Heap Row → Option (Int × Int)
  | [.c (.int .i64 v1), .c (.int .i64 v2)], [] => some (v1, v2)
  | _, _ => none
theorem spec_l1Max_D_ok {vs : List V} {W : Heap Row} {a : Int × Int} (h : spec_l1Max_D vs W = some a) : vs = [.c (.int .i64 (a.1)), .c (.int .i64 (a.2))] ∧ W = [] := by
  unfold spec_l1Max_D at h
  split at h
  · simp at h; subst h; exact ⟨rfl, rfl⟩
  · simp at h
def spec_l1Max_C : Callee Row := ⟨[], fun _ vs W K => (spec_l1Max_D vs W).bind fun a => (spec_l1Max a.1 a.2).bind fun r => K (.c (.int .i64 r)) []⟩
theorem spec_l1Max_ok : CalleeOk Try.prog rowU 201 spec_l1Max_C := by
  refine calleeP (nl := false) (m0 := 0) (T := []) (H := []) TabOk.nil (by kernel_rfl) (by kernel_rfl) (fun p hp => nomatch hp) fun ρ vs W K r h => ?_
  obtain ⟨a, ha, h1⟩ := Option.bind_eq_some_iff.1 h
  clear h
  obtain ⟨rfl, rfl⟩ := spec_l1Max_D_ok ha
  obtain ⟨q, hq, h2⟩ := Option.bind_eq_some_iff.1 h1
  exact ⟨_, _, h2, (spec_l1Max_nf (a.1) (a.2) _ _).trans ((spec_l1Max_bind (a.1) (a.2) _).trans (by rw [hq]; rfl))⟩
/-! loop.example/g00249/spec.l23Owners -/
noncomputable def spec_l23Owners_L2_K (l0 : List GWord) (l1 : List Bool) (l2 : List GSpan) (l3 : List GSpan) (l5 : List GSpan) (n6 : Int) (l4 : List Int) (n7 : Int) {ρ : Type} (A : List Int × Int → Option ρ) (X : List Int → Option ρ) (R : Unit → Option ρ) : Option ρ :=
  cond ((decide (n7 < 24)) == true)
    (cond (decide (0 ≤ n6)) (cond (decide (n6 < (((l5.length : Nat) : Int)))) (cond (decide (0 ≤ n6)) (cond (decide (n6 < (((l5.length : Nat) : Int)))) (cond (decide ((w64 (n7 - (List.getD l5 (n6.toNat) (default)).at_)) < (List.getD l5 (n6.toNat) (default)).len))
      (cond (decide (0 ≤ n7)) (cond (decide (n7 < (((l4.length : Nat) : Int)))) (cond (decide (0 ≤ n7)) (cond (decide (n7 < (((l4.length : Nat) : Int)))) (A (List.set l4 (n7.toNat) (w64 ((List.getD l4 (n7.toNat) 0) + 1)), w64 (n7 + 1))) none) none) none) none)
      (X l4)) none) none) none) none)
    (X l4)
noncomputable def spec_l23Owners_L2_step (l0 : List GWord) (l1 : List Bool) (l2 : List GSpan) (l3 : List GSpan) (l5 : List GSpan) (n6 : Int) (s : List Int × Int) : Option (Rnd (List Int × Int) (List Int) (Unit)) := spec_l23Owners_L2_K l0 l1 l2 l3 l5 n6 (s.1) (s.2) (fun s => some (.again s)) (fun t => some (.exit t)) (fun k => some (.ret k))
theorem spec_l23Owners_L2_bind (l0 : List GWord) (l1 : List Bool) (l2 : List GSpan) (l3 : List GSpan) (l5 : List GSpan) (n6 : Int) (s : List Int × Int) {ρ : Type} (A : List Int × Int → Option ρ) (X : List Int → Option ρ) (R : Unit → Option ρ) : spec_l23Owners_L2_K l0 l1 l2 l3 l5 n6 (s.1) (s.2) A X R = (spec_l23Owners_L2_step l0 l1 l2 l3 l5 n6 s).bind (rndE A X R) := by
  simp only [spec_l23Owners_L2_step, spec_l23Owners_L2_K, Option.bind_assoc, Option.bind_some, Option.bind_none, cond_bind, sumK_bind, rndE_again, rndE_exit, rndE_ret]
def spec_l23Owners_L2_st (p : List GWord × List Bool × List GSpan × List GSpan × List GSpan × Int) (s : List Int × Int) : List V × Heap Row := ([.c (.sl 4 0), .c (.sl 5 0), .c (.int .i64 (p.2.2.2.2.2)), .c (.int .i64 (s.2))], [⟨.row ⟨.word, p.1⟩, 0, 1⟩, ⟨.row ⟨.bool, p.2.1⟩, 0, 1⟩, ⟨.row ⟨.span, p.2.2.1⟩, 0, 1⟩, ⟨.row ⟨.span, p.2.2.2.1⟩, 0, 1⟩, ⟨.row ⟨.int, s.1⟩, 0, 2⟩, ⟨.row ⟨.span, p.2.2.2.2.1⟩, 0, 2⟩])
def spec_l23Owners_L2_so (p : List GWord × List Bool × List GSpan × List GSpan × List GSpan × Int) (t : List Int) : List V × Heap Row := ([.c (.sl 4 0), .c (.sl 5 0), .c (.int .i64 (p.2.2.2.2.2))], [⟨.row ⟨.word, p.1⟩, 0, 1⟩, ⟨.row ⟨.bool, p.2.1⟩, 0, 1⟩, ⟨.row ⟨.span, p.2.2.1⟩, 0, 1⟩, ⟨.row ⟨.span, p.2.2.2.1⟩, 0, 1⟩, ⟨.row ⟨.int, t⟩, 0, 2⟩, ⟨.row ⟨.span, p.2.2.2.2.1⟩, 0, 2⟩])
def spec_l23Owners_L2_D : List V → Heap Row → Option ((List GWord × List Bool × List GSpan × List GSpan × List GSpan × Int) × (List Int × Int))
  | [.c (.sl 4 0), .c (.sl 5 0), .c (.int .i64 v1), .c (.int .i64 v2)], [⟨.row ⟨.word, v3⟩, 0, 1⟩, ⟨.row ⟨.bool, v4⟩, 0, 1⟩, ⟨.row ⟨.span, v5⟩, 0, 1⟩, ⟨.row ⟨.span, v6⟩, 0, 1⟩, ⟨.row ⟨.int, v7⟩, 0, 2⟩, ⟨.row ⟨.span, v8⟩, 0, 2⟩] => some ((v3, v4, v5, v6, v8, v1), (v7, v2))
  | _, _ => none
theorem spec_l23Owners_L2_D_ok (vs : List V) (L : Heap Row) (p : List GWord × List Bool × List GSpan × List GSpan × List GSpan × Int) (s : List Int × Int) (h : spec_l23Owners_L2_D vs L = some (p, s)) : spec_l23Owners_L2_st p s = (vs, L) := by
  unfold spec_l23Owners_L2_D at h
  split at h
  · simp at h; obtain ⟨rfl, rfl⟩ := h; rfl
  · simp at h
noncomputable def spec_l23Owners_L2_H : LoopH Row := loopX [3, 4, 5, 6] [3, 4, 5] spec_l23Owners_L2_D (fun p => spec_l23Owners_L2_step (p.1) (p.2.1) (p.2.2.1) (p.2.2.2.1) (p.2.2.2.2.1) (p.2.2.2.2.2)) spec_l23Owners_L2_so
noncomputable def spec_l23Owners_L0_K (l0 : List GWord) (l1 : List Bool) (l2 : List GSpan) (l3 : List GSpan) (l5 : List GSpan) (l4 : List Int) (n6 : Int) {ρ : Type} (A : List Int × Int → Option ρ) (X : List Int → Option ρ) (R : Unit → Option ρ) : Option ρ :=
  cond (decide (n6 < (((l5.length : Nat) : Int))))
    (cond (decide (0 ≤ n6)) (cond (decide (n6 < (((l5.length : Nat) : Int)))) (Option.bind (spec_l1Max (List.getD l5 (n6.toNat) (default)).at_ 0) fun r1 =>
    Option.bind (runX (spec_l23Owners_L2_step l0 l1 l2 l3 l5 n6) (l4, r1)) fun t2 =>
    A (t2, w64 (n6 + 1))) none) none)
    (X l4)
noncomputable def spec_l23Owners_L0_step (l0 : List GWord) (l1 : List Bool) (l2 : List GSpan) (l3 : List GSpan) (l5 : List GSpan) (s : List Int × Int) : Option (Rnd (List Int × Int) (List Int) (Unit)) := spec_l23Owners_L0_K l0 l1 l2 l3 l5 (s.1) (s.2) (fun s => some (.again s)) (fun t => some (.exit t)) (fun k => some (.ret k))
theorem spec_l23Owners_L0_bind (l0 : List GWord) (l1 : List Bool) (l2 : List GSpan) (l3 : List GSpan) (l5 : List GSpan) (s : List Int × Int) {ρ : Type} (A : List Int × Int → Option ρ) (X : List Int → Option ρ) (R : Unit → Option ρ) : spec_l23Owners_L0_K l0 l1 l2 l3 l5 (s.1) (s.2) A X R = (spec_l23Owners_L0_step l0 l1 l2 l3 l5 s).bind (rndE A X R) := by
  simp only [spec_l23Owners_L0_step, spec_l23Owners_L0_K, Option.bind_assoc, Option.bind_some, Option.bind_none, cond_bind, sumK_bind, rndE_again, rndE_exit, rndE_ret]
def spec_l23Owners_L0_st (p : List GWord × List Bool × List GSpan × List GSpan × List GSpan) (s : List Int × Int) : List V × Heap Row := ([.c (.sl 4 0), .c (.sl 5 0), .c (.int .i64 (s.2))], [⟨.row ⟨.word, p.1⟩, 0, 1⟩, ⟨.row ⟨.bool, p.2.1⟩, 0, 1⟩, ⟨.row ⟨.span, p.2.2.1⟩, 0, 1⟩, ⟨.row ⟨.span, p.2.2.2.1⟩, 0, 1⟩, ⟨.row ⟨.int, s.1⟩, 0, 2⟩, ⟨.row ⟨.span, p.2.2.2.2⟩, 0, 2⟩])
def spec_l23Owners_L0_so (p : List GWord × List Bool × List GSpan × List GSpan × List GSpan) (t : List Int) : List V × Heap Row := ([.c (.sl 4 0)], [⟨.row ⟨.word, p.1⟩, 0, 1⟩, ⟨.row ⟨.bool, p.2.1⟩, 0, 1⟩, ⟨.row ⟨.span, p.2.2.1⟩, 0, 1⟩, ⟨.row ⟨.span, p.2.2.2.1⟩, 0, 1⟩, ⟨.row ⟨.int, t⟩, 0, 2⟩])
def spec_l23Owners_L0_D : List V → Heap Row → Option ((List GWord × List Bool × List GSpan × List GSpan × List GSpan) × (List Int × Int))
  | [.c (.sl 4 0), .c (.sl 5 0), .c (.int .i64 v1)], [⟨.row ⟨.word, v2⟩, 0, 1⟩, ⟨.row ⟨.bool, v3⟩, 0, 1⟩, ⟨.row ⟨.span, v4⟩, 0, 1⟩, ⟨.row ⟨.span, v5⟩, 0, 1⟩, ⟨.row ⟨.int, v6⟩, 0, 2⟩, ⟨.row ⟨.span, v7⟩, 0, 2⟩] => some ((v2, v3, v4, v5, v7), (v6, v1))
  | _, _ => none
theorem spec_l23Owners_L0_D_ok (vs : List V) (L : Heap Row) (p : List GWord × List Bool × List GSpan × List GSpan × List GSpan) (s : List Int × Int) (h : spec_l23Owners_L0_D vs L = some (p, s)) : spec_l23Owners_L0_st p s = (vs, L) := by
  unfold spec_l23Owners_L0_D at h
  split at h
  · simp at h; obtain ⟨rfl, rfl⟩ := h; rfl
  · simp at h
noncomputable def spec_l23Owners_L0_H : LoopH Row := loopX [3, 4, 5] [3] spec_l23Owners_L0_D (fun p => spec_l23Owners_L0_step (p.1) (p.2.1) (p.2.2.1) (p.2.2.2.1) (p.2.2.2.2)) spec_l23Owners_L0_so
theorem spec_l23Owners_L2_nf (p : List GWord × List Bool × List GSpan × List GSpan × List GSpan × Int) (s : List Int × Int) (ρ : Type) (again Kx Kr : List V → Heap Row → Option ρ) : evRound rowU (envOf 131 4 [(201, spec_l1Max_C)] [(2, spec_l23Owners_L2_H), (0, spec_l23Owners_L0_H)]) 2 spec_l23Owners_L2_H (loopC 131 2) again (spec_l23Owners_L2_st p s).1 (spec_l23Owners_L2_st p s).2 Kx Kr = spec_l23Owners_L2_K (p.1) (p.2.1) (p.2.2.1) (p.2.2.2.1) (p.2.2.2.2.1) (p.2.2.2.2.2) (s.1) (s.2) (fun s => again (spec_l23Owners_L2_st p s).1 (spec_l23Owners_L2_st p s).2) (fun t => Kx (spec_l23Owners_L2_so p t).1 (spec_l23Owners_L2_so p t).2) (fun _ => none) := by kernel_rfl
theorem spec_l23Owners_L2_ok (hb : LoopsOk Try.prog rowU (envOf 131 4 [(201, spec_l1Max_C)] [(2, spec_l23Owners_L2_H), (0, spec_l23Owners_L0_H)]) (loopAt (codeP 131) 2)) : LoopOk Try.prog rowU (envOf 131 4 [(201, spec_l1Max_C)] [(2, spec_l23Owners_L2_H), (0, spec_l23Owners_L0_H)]) 2 (loopAt (codeP 131) 2) spec_l23Owners_L2_H :=
  loopX_ok tagOk mixed envNl (envT (TabOk.cons spec_l1Max_ok TabOk.nil)) hb spec_l23Owners_L2_st spec_l23Owners_L2_D_ok fun p s ρ A Kx Kr => (spec_l23Owners_L2_nf p s ρ A Kx Kr).trans (spec_l23Owners_L2_bind (p.1) (p.2.1) (p.2.2.1) (p.2.2.2.1) (p.2.2.2.2.1) (p.2.2.2.2.2) s _ _ _)
theorem spec_l23Owners_L0_nf (p : List GWord × List Bool × List GSpan × List GSpan × List GSpan) (s : List Int × Int) (ρ : Type) (again Kx Kr : List V → Heap Row → Option ρ) : evRound rowU (envOf 131 4 [(201, spec_l1Max_C)] [(2, spec_l23Owners_L2_H), (0, spec_l23Owners_L0_H)]) 0 spec_l23Owners_L0_H (loopC 131 0) again (spec_l23Owners_L0_st p s).1 (spec_l23Owners_L0_st p s).2 Kx Kr = spec_l23Owners_L0_K (p.1) (p.2.1) (p.2.2.1) (p.2.2.2.1) (p.2.2.2.2) (s.1) (s.2) (fun s => again (spec_l23Owners_L0_st p s).1 (spec_l23Owners_L0_st p s).2) (fun t => Kx (spec_l23Owners_L0_so p t).1 (spec_l23Owners_L0_so p t).2) (fun _ => none) := by kernel_rfl
theorem spec_l23Owners_L0_ok (hb : LoopsOk Try.prog rowU (envOf 131 4 [(201, spec_l1Max_C)] [(2, spec_l23Owners_L2_H), (0, spec_l23Owners_L0_H)]) (loopAt (codeP 131) 0)) : LoopOk Try.prog rowU (envOf 131 4 [(201, spec_l1Max_C)] [(2, spec_l23Owners_L2_H), (0, spec_l23Owners_L0_H)]) 0 (loopAt (codeP 131) 0) spec_l23Owners_L0_H :=
  loopX_ok tagOk mixed envNl (envT (TabOk.cons spec_l1Max_ok TabOk.nil)) hb spec_l23Owners_L0_st spec_l23Owners_L0_D_ok fun p s ρ A Kx Kr => (spec_l23Owners_L0_nf p s ρ A Kx Kr).trans (spec_l23Owners_L0_bind (p.1) (p.2.1) (p.2.2.1) (p.2.2.2.1) (p.2.2.2.2) s _ _ _)
noncomputable def spec_l23Owners_K (x0 : GHeap) {ρ : Type} (K : List Int → Option ρ) : Option ρ :=
  cond (decide (((0 + (x0.live.length)) * 16) ≤ 140737488355328)) (cond (decide ((((([] ++ x0.live).length) + (x0.waits.length)) * 16) ≤ 140737488355328)) (Option.bind (runX (spec_l23Owners_L0_step x0.mem.words x0.mem.gone x0.live x0.waits (([] ++ x0.live) ++ x0.waits)) (List.replicate 24 0, 0)) fun t3 =>
  K t3) none) none
noncomputable def spec_l23Owners (x0 : GHeap) : Option (List Int) := spec_l23Owners_K x0 some
theorem spec_l23Owners_bind (x0 : GHeap) {ρ : Type} (K : List Int → Option ρ) : spec_l23Owners_K x0 K = (spec_l23Owners x0).bind K := by
  simp only [spec_l23Owners, spec_l23Owners_K, Option.bind_assoc, Option.bind_some, Option.bind_none, cond_bind, sumK_bind]
noncomputable def spec_l23Owners_E : Env Row := envN false 131 4 [(201, spec_l1Max_C)] [(2, spec_l23Owners_L2_H), (0, spec_l23Owners_L0_H)]
theorem spec_l23Owners_nf (x0 : GHeap) (ρ : Type) (K : V → Heap Row → Option ρ) : evBody rowU spec_l23Owners_E (bodyC 131) [.a [.sl 0 0, .sl 1 0, .sl 2 0, .sl 3 0]] [⟨.row ⟨.word, x0.mem.words⟩, 0, 1⟩, ⟨.row ⟨.bool, x0.mem.gone⟩, 0, 1⟩, ⟨.row ⟨.span, x0.live⟩, 0, 1⟩, ⟨.row ⟨.span, x0.waits⟩, 0, 1⟩] K = spec_l23Owners_K x0 (fun r => K (.c (.sl 4 0)) [⟨.row ⟨.word, x0.mem.words⟩, 0, 1⟩, ⟨.row ⟨.bool, x0.mem.gone⟩, 0, 1⟩, ⟨.row ⟨.span, x0.live⟩, 0, 1⟩, ⟨.row ⟨.span, x0.waits⟩, 0, 1⟩, ⟨.row ⟨.int, r⟩, 0, 2⟩]) := by kernel_rfl
def spec_l23Owners_D : List V → Heap Row → Option (GHeap)
  | [.a (.sl 0 0 :: .sl 1 0 :: .sl 2 0 :: .sl 3 0 :: [])], [⟨.row ⟨.word, v1⟩, 0, 1⟩, ⟨.row ⟨.bool, v2⟩, 0, 1⟩, ⟨.row ⟨.span, v3⟩, 0, 1⟩, ⟨.row ⟨.span, v4⟩, 0, 1⟩] => some (⟨⟨v1, v2⟩, v3, v4⟩)
  | _, _ => none
theorem spec_l23Owners_D_ok {vs : List V} {W : Heap Row} {a : GHeap} (h : spec_l23Owners_D vs W = some a) : vs = [.a [.sl 0 0, .sl 1 0, .sl 2 0, .sl 3 0]] ∧ W = [⟨.row ⟨.word, (a).mem.words⟩, 0, 1⟩, ⟨.row ⟨.bool, (a).mem.gone⟩, 0, 1⟩, ⟨.row ⟨.span, (a).live⟩, 0, 1⟩, ⟨.row ⟨.span, (a).waits⟩, 0, 1⟩] := by
  unfold spec_l23Owners_D at h
  split at h
  · simp at h; subst h; exact ⟨rfl, rfl⟩
  · simp at h
noncomputable def spec_l23Owners_C : Callee Row := ⟨[(false, 0), (false, 0), (false, 0), (false, 0)], fun _ vs W K => (spec_l23Owners_D vs W).bind fun a => (spec_l23Owners a).bind fun r => K (.c (.sl 4 0)) [⟨.row ⟨.word, (a).mem.words⟩, 0, 1⟩, ⟨.row ⟨.bool, (a).mem.gone⟩, 0, 1⟩, ⟨.row ⟨.span, (a).live⟩, 0, 1⟩, ⟨.row ⟨.span, (a).waits⟩, 0, 1⟩, ⟨.row ⟨.int, r⟩, 0, 2⟩]⟩
theorem spec_l23Owners_ok : CalleeOk Try.prog rowU 131 spec_l23Owners_C := by
  refine calleeP (nl := false) (m0 := 4) (T := [(201, spec_l1Max_C)]) (H := [(2, spec_l23Owners_L2_H), (0, spec_l23Owners_L0_H)]) (TabOk.cons spec_l1Max_ok TabOk.nil) (by kernel_rfl) (by kernel_rfl) (fun p hp hb => by
    simp only [List.mem_cons, List.not_mem_nil, or_false] at hp
    rcases hp with rfl | rfl
    · exact spec_l23Owners_L2_ok hb
    · exact spec_l23Owners_L0_ok hb) fun ρ vs W K r h => ?_
  obtain ⟨a, ha, h1⟩ := Option.bind_eq_some_iff.1 h
  clear h
  obtain ⟨rfl, rfl⟩ := spec_l23Owners_D_ok ha
  obtain ⟨q, hq, h2⟩ := Option.bind_eq_some_iff.1 h1
  exact ⟨_, _, h2, (spec_l23Owners_nf a _ _).trans ((spec_l23Owners_bind a _).trans (by rw [hq]; rfl))⟩
/-! loop.example/g00249/spec.l23In -/
noncomputable def spec_l23In_L0_K (l0 : List GSpan) (n1 : Int) (n2 : Int) {ρ : Type} (A : Int → Option ρ) (X : Unit → Option ρ) (R : Unit → Option ρ) : Option ρ :=
  cond (decide (n2 < (((l0.length : Nat) : Int))))
    (cond (decide (0 ≤ n2)) (cond (decide (n2 < (((l0.length : Nat) : Int)))) (cond (decide (0 ≤ n2)) (cond (decide (n2 < (((l0.length : Nat) : Int)))) (cond (decide (0 ≤ n2)) (cond (decide (n2 < (((l0.length : Nat) : Int)))) (Option.bind (spec_l1In n1 (List.getD l0 (n2.toNat) (default)).at_ (w64 ((w64 ((List.getD l0 (n2.toNat) (default)).at_ + (List.getD l0 (n2.toNat) (default)).len)) - 1))) fun r1 =>
    cond r1
      (R ())
      (A (w64 (n2 + 1)))) none) none) none) none) none) none)
    (X ())
noncomputable def spec_l23In_L0_step (l0 : List GSpan) (n1 : Int) (s : Int) : Option (Rnd (Int) (Unit) (Unit)) := spec_l23In_L0_K l0 n1 s (fun s => some (.again s)) (fun t => some (.exit t)) (fun k => some (.ret k))
theorem spec_l23In_L0_bind (l0 : List GSpan) (n1 : Int) (s : Int) {ρ : Type} (A : Int → Option ρ) (X : Unit → Option ρ) (R : Unit → Option ρ) : spec_l23In_L0_K l0 n1 s A X R = (spec_l23In_L0_step l0 n1 s).bind (rndE A X R) := by
  simp only [spec_l23In_L0_step, spec_l23In_L0_K, Option.bind_assoc, Option.bind_some, Option.bind_none, cond_bind, sumK_bind, rndE_again, rndE_exit, rndE_ret]
def spec_l23In_L0_st (p : List GSpan × Int) (s : Int) : List V × Heap Row := ([.c (.sl 0 0), .c (.int .i64 (p.2)), .c (.int .i64 (s))], [⟨.row ⟨.span, p.1⟩, 0, 1⟩])
def spec_l23In_L0_so (p : List GSpan × Int) (t : Unit) : List V × Heap Row := ([], [⟨.row ⟨.span, p.1⟩, 0, 1⟩])
def spec_l23In_L0_sr (p : List GSpan × Int) (k : Unit) : List V × Heap Row := ([.c (.bool true)], [⟨.row ⟨.span, p.1⟩, 0, 1⟩])
def spec_l23In_L0_D : List V → Heap Row → Option ((List GSpan × Int) × (Int))
  | [.c (.sl 0 0), .c (.int .i64 v1), .c (.int .i64 v2)], [⟨.row ⟨.span, v3⟩, 0, 1⟩] => some ((v3, v1), (v2))
  | _, _ => none
theorem spec_l23In_L0_D_ok (vs : List V) (L : Heap Row) (p : List GSpan × Int) (s : Int) (h : spec_l23In_L0_D vs L = some (p, s)) : spec_l23In_L0_st p s = (vs, L) := by
  unfold spec_l23In_L0_D at h
  split at h
  · simp at h; obtain ⟨rfl, rfl⟩ := h; rfl
  · simp at h
noncomputable def spec_l23In_L0_H : LoopH Row := loopR [0, 1, 5] [] spec_l23In_L0_D (fun p => spec_l23In_L0_step (p.1) (p.2)) spec_l23In_L0_so spec_l23In_L0_sr
theorem spec_l23In_L0_nf (p : List GSpan × Int) (s : Int) (ρ : Type) (again Kx Kr : List V → Heap Row → Option ρ) : evRound rowU (envOf 203 1 [(160, spec_l1In_C)] [(0, spec_l23In_L0_H)]) 0 spec_l23In_L0_H (loopC 203 0) again (spec_l23In_L0_st p s).1 (spec_l23In_L0_st p s).2 Kx Kr = spec_l23In_L0_K (p.1) (p.2) s (fun s => again (spec_l23In_L0_st p s).1 (spec_l23In_L0_st p s).2) (fun t => Kx (spec_l23In_L0_so p t).1 (spec_l23In_L0_so p t).2) (fun k => Kr (spec_l23In_L0_sr p k).1 (spec_l23In_L0_sr p k).2) := by kernel_rfl
theorem spec_l23In_L0_ok (hb : LoopsOk Try.prog rowU (envOf 203 1 [(160, spec_l1In_C)] [(0, spec_l23In_L0_H)]) (loopAt (codeP 203) 0)) : LoopOk Try.prog rowU (envOf 203 1 [(160, spec_l1In_C)] [(0, spec_l23In_L0_H)]) 0 (loopAt (codeP 203) 0) spec_l23In_L0_H :=
  loopR_ok tagOk mixed envNl (envT (TabOk.cons spec_l1In_ok TabOk.nil)) hb spec_l23In_L0_st spec_l23In_L0_D_ok fun p s ρ A Kx Kr => (spec_l23In_L0_nf p s ρ A Kx Kr).trans (spec_l23In_L0_bind (p.1) (p.2) s _ _ _)
noncomputable def spec_l23In_K (x0 : List GSpan) (x1 : Int) {ρ : Type} (K : Bool → Option ρ) : Option ρ :=
  Option.bind (runL (spec_l23In_L0_step x0 x1) 0) fun ot2 => sumK ot2
    (fun t2 => K false)
    (fun k3 => K true)
noncomputable def spec_l23In (x0 : List GSpan) (x1 : Int) : Option (Bool) := spec_l23In_K x0 x1 some
theorem spec_l23In_bind (x0 : List GSpan) (x1 : Int) {ρ : Type} (K : Bool → Option ρ) : spec_l23In_K x0 x1 K = (spec_l23In x0 x1).bind K := by
  simp only [spec_l23In, spec_l23In_K, Option.bind_assoc, Option.bind_some, Option.bind_none, cond_bind, sumK_bind]
noncomputable def spec_l23In_E : Env Row := envN false 203 1 [(160, spec_l1In_C)] [(0, spec_l23In_L0_H)]
theorem spec_l23In_nf (x0 : List GSpan) (x1 : Int) (ρ : Type) (K : V → Heap Row → Option ρ) : evBody rowU spec_l23In_E (bodyC 203) [.c (.sl 0 0), .c (.int .i64 x1)] [⟨.row ⟨.span, x0⟩, 0, 1⟩] K = spec_l23In_K x0 x1 (fun r => K (.c (.bool r)) [⟨.row ⟨.span, x0⟩, 0, 1⟩]) := by kernel_rfl
def spec_l23In_D : List V → Heap Row → Option (List GSpan × Int)
  | [.c (.sl 0 0), .c (.int .i64 v1)], [⟨.row ⟨.span, v2⟩, 0, 1⟩] => some (v2, v1)
  | _, _ => none
theorem spec_l23In_D_ok {vs : List V} {W : Heap Row} {a : List GSpan × Int} (h : spec_l23In_D vs W = some a) : vs = [.c (.sl 0 0), .c (.int .i64 (a.2))] ∧ W = [⟨.row ⟨.span, a.1⟩, 0, 1⟩] := by
  unfold spec_l23In_D at h
  split at h
  · simp at h; subst h; exact ⟨rfl, rfl⟩
  · simp at h
noncomputable def spec_l23In_C : Callee Row := ⟨[(false, 0)], fun _ vs W K => (spec_l23In_D vs W).bind fun a => (spec_l23In a.1 a.2).bind fun r => K (.c (.bool r)) [⟨.row ⟨.span, a.1⟩, 0, 1⟩]⟩
theorem spec_l23In_ok : CalleeOk Try.prog rowU 203 spec_l23In_C := by
  refine calleeP (nl := false) (m0 := 1) (T := [(160, spec_l1In_C)]) (H := [(0, spec_l23In_L0_H)]) (TabOk.cons spec_l1In_ok TabOk.nil) (by kernel_rfl) (by kernel_rfl) (fun p hp hb => by
    simp only [List.mem_cons, List.not_mem_nil, or_false] at hp
    subst hp
    exact spec_l23In_L0_ok hb) fun ρ vs W K r h => ?_
  obtain ⟨a, ha, h1⟩ := Option.bind_eq_some_iff.1 h
  clear h
  obtain ⟨rfl, rfl⟩ := spec_l23In_D_ok ha
  obtain ⟨q, hq, h2⟩ := Option.bind_eq_some_iff.1 h1
  exact ⟨_, _, h2, (spec_l23In_nf (a.1) (a.2) _ _).trans ((spec_l23In_bind (a.1) (a.2) _).trans (by rw [hq]; rfl))⟩
/-! loop.example/g00249/spec.HeapOk -/
noncomputable def spec_HeapOk_L0_K (l0 : List GWord) (l1 : List Bool) (l2 : List GSpan) (l3 : List GSpan) (l4 : List Int) (n5 : Int) {ρ : Type} (A : Int → Option ρ) (X : Unit → Option ρ) (R : Unit → Option ρ) : Option ρ :=
  cond (decide (n5 < 24))
    (cond (decide (0 ≤ n5)) (cond (decide (n5 < (((l4.length : Nat) : Int)))) (cond ((decide ((List.getD l4 (n5.toNat) 0) > 1)) == false)
      (cond (decide (0 ≤ n5)) (cond (decide (n5 < (((l1.length : Nat) : Int)))) (Option.bind (spec_l23In l3 n5) fun r5 =>
      cond (!((List.getD l1 (n5.toNat) false) == r5))
        (R ())
        (A (w64 (n5 + 1)))) none) none)
      (R ())) none) none)
    (X ())
noncomputable def spec_HeapOk_L0_step (l0 : List GWord) (l1 : List Bool) (l2 : List GSpan) (l3 : List GSpan) (l4 : List Int) (s : Int) : Option (Rnd (Int) (Unit) (Unit)) := spec_HeapOk_L0_K l0 l1 l2 l3 l4 s (fun s => some (.again s)) (fun t => some (.exit t)) (fun k => some (.ret k))
theorem spec_HeapOk_L0_bind (l0 : List GWord) (l1 : List Bool) (l2 : List GSpan) (l3 : List GSpan) (l4 : List Int) (s : Int) {ρ : Type} (A : Int → Option ρ) (X : Unit → Option ρ) (R : Unit → Option ρ) : spec_HeapOk_L0_K l0 l1 l2 l3 l4 s A X R = (spec_HeapOk_L0_step l0 l1 l2 l3 l4 s).bind (rndE A X R) := by
  simp only [spec_HeapOk_L0_step, spec_HeapOk_L0_K, Option.bind_assoc, Option.bind_some, Option.bind_none, cond_bind, sumK_bind, rndE_again, rndE_exit, rndE_ret]
def spec_HeapOk_L0_st (p : List GWord × List Bool × List GSpan × List GSpan × List Int) (s : Int) : List V × Heap Row := ([.c (.ptr 4 0), .c (.sl 5 0), .c (.int .i64 (s))], [⟨.row ⟨.word, p.1⟩, 0, 1⟩, ⟨.row ⟨.bool, p.2.1⟩, 0, 1⟩, ⟨.row ⟨.span, p.2.2.1⟩, 0, 1⟩, ⟨.row ⟨.span, p.2.2.2.1⟩, 0, 1⟩, ⟨.box [.sl 0 0, .sl 1 0, .sl 2 0, .sl 3 0], 0, 2⟩, ⟨.row ⟨.int, p.2.2.2.2⟩, 0, 2⟩])
def spec_HeapOk_L0_so (p : List GWord × List Bool × List GSpan × List GSpan × List Int) (t : Unit) : List V × Heap Row := ([], [⟨.row ⟨.word, p.1⟩, 0, 1⟩, ⟨.row ⟨.bool, p.2.1⟩, 0, 1⟩, ⟨.row ⟨.span, p.2.2.1⟩, 0, 1⟩, ⟨.row ⟨.span, p.2.2.2.1⟩, 0, 1⟩])
def spec_HeapOk_L0_sr (p : List GWord × List Bool × List GSpan × List GSpan × List Int) (k : Unit) : List V × Heap Row := ([.c (.bool false)], [⟨.row ⟨.word, p.1⟩, 0, 1⟩, ⟨.row ⟨.bool, p.2.1⟩, 0, 1⟩, ⟨.row ⟨.span, p.2.2.1⟩, 0, 1⟩, ⟨.row ⟨.span, p.2.2.2.1⟩, 0, 1⟩])
def spec_HeapOk_L0_D : List V → Heap Row → Option ((List GWord × List Bool × List GSpan × List GSpan × List Int) × (Int))
  | [.c (.ptr 4 0), .c (.sl 5 0), .c (.int .i64 v1)], [⟨.row ⟨.word, v2⟩, 0, 1⟩, ⟨.row ⟨.bool, v3⟩, 0, 1⟩, ⟨.row ⟨.span, v4⟩, 0, 1⟩, ⟨.row ⟨.span, v5⟩, 0, 1⟩, ⟨.box [.sl 0 0, .sl 1 0, .sl 2 0, .sl 3 0], 0, 2⟩, ⟨.row ⟨.int, v6⟩, 0, 2⟩] => some ((v2, v3, v4, v5, v6), (v1))
  | _, _ => none
theorem spec_HeapOk_L0_D_ok (vs : List V) (L : Heap Row) (p : List GWord × List Bool × List GSpan × List GSpan × List Int) (s : Int) (h : spec_HeapOk_L0_D vs L = some (p, s)) : spec_HeapOk_L0_st p s = (vs, L) := by
  unfold spec_HeapOk_L0_D at h
  split at h
  · simp at h; obtain ⟨rfl, rfl⟩ := h; rfl
  · simp at h
noncomputable def spec_HeapOk_L0_H : LoopH Row := loopR [1, 3, 4] [] spec_HeapOk_L0_D (fun p => spec_HeapOk_L0_step (p.1) (p.2.1) (p.2.2.1) (p.2.2.2.1) (p.2.2.2.2)) spec_HeapOk_L0_so spec_HeapOk_L0_sr
theorem spec_HeapOk_L0_nf (p : List GWord × List Bool × List GSpan × List GSpan × List Int) (s : Int) (ρ : Type) (again Kx Kr : List V → Heap Row → Option ρ) : evRound rowU (envOf 132 4 [(116, spec_MemoryOk_C), (202, spec_l23Spans_C), (131, spec_l23Owners_C), (203, spec_l23In_C)] [(0, spec_HeapOk_L0_H)]) 0 spec_HeapOk_L0_H (loopC 132 0) again (spec_HeapOk_L0_st p s).1 (spec_HeapOk_L0_st p s).2 Kx Kr = spec_HeapOk_L0_K (p.1) (p.2.1) (p.2.2.1) (p.2.2.2.1) (p.2.2.2.2) s (fun s => again (spec_HeapOk_L0_st p s).1 (spec_HeapOk_L0_st p s).2) (fun t => Kx (spec_HeapOk_L0_so p t).1 (spec_HeapOk_L0_so p t).2) (fun k => Kr (spec_HeapOk_L0_sr p k).1 (spec_HeapOk_L0_sr p k).2) := by kernel_rfl
theorem spec_HeapOk_L0_ok (hb : LoopsOk Try.prog rowU (envOf 132 4 [(116, spec_MemoryOk_C), (202, spec_l23Spans_C), (131, spec_l23Owners_C), (203, spec_l23In_C)] [(0, spec_HeapOk_L0_H)]) (loopAt (codeP 132) 0)) : LoopOk Try.prog rowU (envOf 132 4 [(116, spec_MemoryOk_C), (202, spec_l23Spans_C), (131, spec_l23Owners_C), (203, spec_l23In_C)] [(0, spec_HeapOk_L0_H)]) 0 (loopAt (codeP 132) 0) spec_HeapOk_L0_H :=
  loopR_ok tagOk mixed envNl (envT (TabOk.cons spec_MemoryOk_ok (TabOk.cons spec_l23Spans_ok (TabOk.cons spec_l23Owners_ok (TabOk.cons spec_l23In_ok TabOk.nil))))) hb spec_HeapOk_L0_st spec_HeapOk_L0_D_ok fun p s ρ A Kx Kr => (spec_HeapOk_L0_nf p s ρ A Kx Kr).trans (spec_HeapOk_L0_bind (p.1) (p.2.1) (p.2.2.1) (p.2.2.2.1) (p.2.2.2.2) s _ _ _)
noncomputable def spec_HeapOk_K (x0 : GHeap) {ρ : Type} (K : Bool → Option ρ) : Option ρ :=
  Option.bind (spec_MemoryOk x0.mem) fun r1 =>
  cond ((!r1) == false)
    (Option.bind (spec_l23Spans x0.live) fun r2 =>
    cond ((!r2) == false)
      (Option.bind (spec_l23Spans x0.waits) fun r3 =>
      cond (!r3)
        (K false)
        (Option.bind (spec_l23Owners x0) fun r4 =>
        Option.bind (runL (spec_HeapOk_L0_step x0.mem.words x0.mem.gone x0.live x0.waits r4) 0) fun ot6 => sumK ot6
          (fun t6 => K true)
          (fun k7 => K false)))
      (K false))
    (K false)
noncomputable def spec_HeapOk (x0 : GHeap) : Option (Bool) := spec_HeapOk_K x0 some
theorem spec_HeapOk_bind (x0 : GHeap) {ρ : Type} (K : Bool → Option ρ) : spec_HeapOk_K x0 K = (spec_HeapOk x0).bind K := by
  simp only [spec_HeapOk, spec_HeapOk_K, Option.bind_assoc, Option.bind_some, Option.bind_none, cond_bind, sumK_bind]
noncomputable def spec_HeapOk_E : Env Row := envN false 132 4 [(116, spec_MemoryOk_C), (202, spec_l23Spans_C), (131, spec_l23Owners_C), (203, spec_l23In_C)] [(0, spec_HeapOk_L0_H)]
theorem spec_HeapOk_nf (x0 : GHeap) (ρ : Type) (K : V → Heap Row → Option ρ) : evBody rowU spec_HeapOk_E (bodyC 132) [.a [.sl 0 0, .sl 1 0, .sl 2 0, .sl 3 0]] [⟨.row ⟨.word, x0.mem.words⟩, 0, 1⟩, ⟨.row ⟨.bool, x0.mem.gone⟩, 0, 1⟩, ⟨.row ⟨.span, x0.live⟩, 0, 1⟩, ⟨.row ⟨.span, x0.waits⟩, 0, 1⟩] K = spec_HeapOk_K x0 (fun r => K (.c (.bool r)) [⟨.row ⟨.word, x0.mem.words⟩, 0, 1⟩, ⟨.row ⟨.bool, x0.mem.gone⟩, 0, 1⟩, ⟨.row ⟨.span, x0.live⟩, 0, 1⟩, ⟨.row ⟨.span, x0.waits⟩, 0, 1⟩]) := by kernel_rfl
def spec_HeapOk_D : List V → Heap Row → Option (GHeap)
  | [.a (.sl 0 0 :: .sl 1 0 :: .sl 2 0 :: .sl 3 0 :: [])], [⟨.row ⟨.word, v1⟩, 0, 1⟩, ⟨.row ⟨.bool, v2⟩, 0, 1⟩, ⟨.row ⟨.span, v3⟩, 0, 1⟩, ⟨.row ⟨.span, v4⟩, 0, 1⟩] => some (⟨⟨v1, v2⟩, v3, v4⟩)
  | _, _ => none
theorem spec_HeapOk_D_ok {vs : List V} {W : Heap Row} {a : GHeap} (h : spec_HeapOk_D vs W = some a) : vs = [.a [.sl 0 0, .sl 1 0, .sl 2 0, .sl 3 0]] ∧ W = [⟨.row ⟨.word, (a).mem.words⟩, 0, 1⟩, ⟨.row ⟨.bool, (a).mem.gone⟩, 0, 1⟩, ⟨.row ⟨.span, (a).live⟩, 0, 1⟩, ⟨.row ⟨.span, (a).waits⟩, 0, 1⟩] := by
  unfold spec_HeapOk_D at h
  split at h
  · simp at h; subst h; exact ⟨rfl, rfl⟩
  · simp at h
noncomputable def spec_HeapOk_C : Callee Row := ⟨[(false, 0), (false, 0), (false, 0), (false, 0)], fun _ vs W K => (spec_HeapOk_D vs W).bind fun a => (spec_HeapOk a).bind fun r => K (.c (.bool r)) [⟨.row ⟨.word, (a).mem.words⟩, 0, 1⟩, ⟨.row ⟨.bool, (a).mem.gone⟩, 0, 1⟩, ⟨.row ⟨.span, (a).live⟩, 0, 1⟩, ⟨.row ⟨.span, (a).waits⟩, 0, 1⟩]⟩
theorem spec_HeapOk_ok : CalleeOk Try.prog rowU 132 spec_HeapOk_C := by
  refine calleeP (nl := false) (m0 := 4) (T := [(116, spec_MemoryOk_C), (202, spec_l23Spans_C), (131, spec_l23Owners_C), (203, spec_l23In_C)]) (H := [(0, spec_HeapOk_L0_H)]) (TabOk.cons spec_MemoryOk_ok (TabOk.cons spec_l23Spans_ok (TabOk.cons spec_l23Owners_ok (TabOk.cons spec_l23In_ok TabOk.nil)))) (by kernel_rfl) (by kernel_rfl) (fun p hp hb => by
    simp only [List.mem_cons, List.not_mem_nil, or_false] at hp
    subst hp
    exact spec_HeapOk_L0_ok hb) fun ρ vs W K r h => ?_
  obtain ⟨a, ha, h1⟩ := Option.bind_eq_some_iff.1 h
  clear h
  obtain ⟨rfl, rfl⟩ := spec_HeapOk_D_ok ha
  obtain ⟨q, hq, h2⟩ := Option.bind_eq_some_iff.1 h1
  exact ⟨_, _, h2, (spec_HeapOk_nf a _ _).trans ((spec_HeapOk_bind a _).trans (by rw [hq]; rfl))⟩
/-! loop.example/g00249/spec.l23Put -/
noncomputable def spec_l23Put_L0_K (l0 : List GSpan) (n1 : Int) (n2 : Int) (n3 : Int) {ρ : Type} (A : Int → Option ρ) (X : Int → Option ρ) (R : Unit → Option ρ) : Option ρ :=
  cond ((decide (n3 < (((l0.length : Nat) : Int)))) == true)
    (cond (decide (0 ≤ n3)) (cond (decide (n3 < (((l0.length : Nat) : Int)))) (cond (decide ((List.getD l0 (n3.toNat) (default)).at_ < n1))
      (A (w64 (n3 + 1)))
      (X n3)) none) none)
    (X n3)
noncomputable def spec_l23Put_L0_step (l0 : List GSpan) (n1 : Int) (n2 : Int) (s : Int) : Option (Rnd (Int) (Int) (Unit)) := spec_l23Put_L0_K l0 n1 n2 s (fun s => some (.again s)) (fun t => some (.exit t)) (fun k => some (.ret k))
theorem spec_l23Put_L0_bind (l0 : List GSpan) (n1 : Int) (n2 : Int) (s : Int) {ρ : Type} (A : Int → Option ρ) (X : Int → Option ρ) (R : Unit → Option ρ) : spec_l23Put_L0_K l0 n1 n2 s A X R = (spec_l23Put_L0_step l0 n1 n2 s).bind (rndE A X R) := by
  simp only [spec_l23Put_L0_step, spec_l23Put_L0_K, Option.bind_assoc, Option.bind_some, Option.bind_none, cond_bind, sumK_bind, rndE_again, rndE_exit, rndE_ret]
def spec_l23Put_L0_st (p : List GSpan × Int × Int) (s : Int) : List V × Heap Row := ([.c (.sl 0 0), .c (.ptr 1 0), .c (.int .i64 (s))], [⟨.row ⟨.span, p.1⟩, 0, 1⟩, ⟨.box [.int .i64 (p.2.1), .int .i64 (p.2.2)], 0, 2⟩])
def spec_l23Put_L0_so (p : List GSpan × Int × Int) (t : Int) : List V × Heap Row := ([.c (.sl 0 0), .c (.ptr 1 0), .c (.int .i64 (t))], [⟨.row ⟨.span, p.1⟩, 0, 1⟩, ⟨.box [.int .i64 (p.2.1), .int .i64 (p.2.2)], 0, 2⟩])
def spec_l23Put_L0_D : List V → Heap Row → Option ((List GSpan × Int × Int) × (Int))
  | [.c (.sl 0 0), .c (.ptr 1 0), .c (.int .i64 v1)], [⟨.row ⟨.span, v2⟩, 0, 1⟩, ⟨.box [.int .i64 v3, .int .i64 v4], 0, 2⟩] => some ((v2, v3, v4), (v1))
  | _, _ => none
theorem spec_l23Put_L0_D_ok (vs : List V) (L : Heap Row) (p : List GSpan × Int × Int) (s : Int) (h : spec_l23Put_L0_D vs L = some (p, s)) : spec_l23Put_L0_st p s = (vs, L) := by
  unfold spec_l23Put_L0_D at h
  split at h
  · simp at h; obtain ⟨rfl, rfl⟩ := h; rfl
  · simp at h
noncomputable def spec_l23Put_L0_H : LoopH Row := loopX [0, 3, 5] [0, 3, 5] spec_l23Put_L0_D (fun p => spec_l23Put_L0_step (p.1) (p.2.1) (p.2.2)) spec_l23Put_L0_so
theorem spec_l23Put_L0_nf (p : List GSpan × Int × Int) (s : Int) (ρ : Type) (again Kx Kr : List V → Heap Row → Option ρ) : evRound rowU (envOf 169 1 [] [(0, spec_l23Put_L0_H)]) 0 spec_l23Put_L0_H (loopC 169 0) again (spec_l23Put_L0_st p s).1 (spec_l23Put_L0_st p s).2 Kx Kr = spec_l23Put_L0_K (p.1) (p.2.1) (p.2.2) s (fun s => again (spec_l23Put_L0_st p s).1 (spec_l23Put_L0_st p s).2) (fun t => Kx (spec_l23Put_L0_so p t).1 (spec_l23Put_L0_so p t).2) (fun _ => none) := by kernel_rfl
theorem spec_l23Put_L0_ok (hb : LoopsOk Try.prog rowU (envOf 169 1 [] [(0, spec_l23Put_L0_H)]) (loopAt (codeP 169) 0)) : LoopOk Try.prog rowU (envOf 169 1 [] [(0, spec_l23Put_L0_H)]) 0 (loopAt (codeP 169) 0) spec_l23Put_L0_H :=
  loopX_ok tagOk mixed envNl (envT TabOk.nil) hb spec_l23Put_L0_st spec_l23Put_L0_D_ok fun p s ρ A Kx Kr => (spec_l23Put_L0_nf p s ρ A Kx Kr).trans (spec_l23Put_L0_bind (p.1) (p.2.1) (p.2.2) s _ _ _)
noncomputable def spec_l23Put_K (x0 : List GSpan) (x1 : GSpan) {ρ : Type} (K : List GSpan → Option ρ) : Option ρ :=
  Option.bind (runX (spec_l23Put_L0_step x0 x1.at_ x1.len) 0) fun t1 =>
  cond (decide (0 ≤ t1)) (cond (decide (t1 ≤ (((x0.length : Nat) : Int)))) (cond (decide (((0 + ((cutL x0 0 ((t1 - 0).toNat)).length)) * 16) ≤ 140737488355328)) (cond (decide ((((([] ++ (cutL x0 0 ((t1 - 0).toNat))).length) + 1) * 16) ≤ 140737488355328)) (cond (decide (0 ≤ t1)) (cond (decide (t1 ≤ (((x0.length : Nat) : Int)))) (cond (decide ((((x0.length : Nat) : Int)) ≤ (((x0.length : Nat) : Int)))) (cond (decide (((((([] ++ (cutL x0 0 ((t1 - 0).toNat))) ++ [x1]).length) + ((cutL x0 (t1.toNat) (((((x0.length : Nat) : Int)) - t1).toNat)).length)) * 16) ≤ 140737488355328)) (K ((([] ++ (cutL x0 0 ((t1 - 0).toNat))) ++ [x1]) ++ (cutL x0 (t1.toNat) (((((x0.length : Nat) : Int)) - t1).toNat)))) none) none) none) none) none) none) none) none
noncomputable def spec_l23Put (x0 : List GSpan) (x1 : GSpan) : Option (List GSpan) := spec_l23Put_K x0 x1 some
theorem spec_l23Put_bind (x0 : List GSpan) (x1 : GSpan) {ρ : Type} (K : List GSpan → Option ρ) : spec_l23Put_K x0 x1 K = (spec_l23Put x0 x1).bind K := by
  simp only [spec_l23Put, spec_l23Put_K, Option.bind_assoc, Option.bind_some, Option.bind_none, cond_bind, sumK_bind]
noncomputable def spec_l23Put_E : Env Row := envN false 169 1 [] [(0, spec_l23Put_L0_H)]
theorem spec_l23Put_nf (x0 : List GSpan) (x1 : GSpan) (ρ : Type) (K : V → Heap Row → Option ρ) : evBody rowU spec_l23Put_E (bodyC 169) [.c (.sl 0 0), .a [.int .i64 x1.at_, .int .i64 x1.len]] [⟨.row ⟨.span, x0⟩, 0, 1⟩] K = spec_l23Put_K x0 x1 (fun r => K (.c (.sl 1 0)) [⟨.row ⟨.span, x0⟩, 0, 1⟩, ⟨.row ⟨.span, r⟩, 0, 2⟩]) := by kernel_rfl
def spec_l23Put_D : List V → Heap Row → Option (List GSpan × GSpan)
  | [.c (.sl 0 0), .a (.int .i64 v1 :: .int .i64 v2 :: [])], [⟨.row ⟨.span, v3⟩, 0, 1⟩] => some (v3, ⟨v1, v2⟩)
  | _, _ => none
theorem spec_l23Put_D_ok {vs : List V} {W : Heap Row} {a : List GSpan × GSpan} (h : spec_l23Put_D vs W = some a) : vs = [.c (.sl 0 0), .a [.int .i64 (a.2).at_, .int .i64 (a.2).len]] ∧ W = [⟨.row ⟨.span, a.1⟩, 0, 1⟩] := by
  unfold spec_l23Put_D at h
  split at h
  · simp at h; subst h; exact ⟨rfl, rfl⟩
  · simp at h
noncomputable def spec_l23Put_C : Callee Row := ⟨[(false, 0)], fun _ vs W K => (spec_l23Put_D vs W).bind fun a => (spec_l23Put a.1 a.2).bind fun r => K (.c (.sl 1 0)) [⟨.row ⟨.span, a.1⟩, 0, 1⟩, ⟨.row ⟨.span, r⟩, 0, 2⟩]⟩
theorem spec_l23Put_ok : CalleeOk Try.prog rowU 169 spec_l23Put_C := by
  refine calleeP (nl := false) (m0 := 1) (T := []) (H := [(0, spec_l23Put_L0_H)]) TabOk.nil (by kernel_rfl) (by kernel_rfl) (fun p hp hb => by
    simp only [List.mem_cons, List.not_mem_nil, or_false] at hp
    subst hp
    exact spec_l23Put_L0_ok hb) fun ρ vs W K r h => ?_
  obtain ⟨a, ha, h1⟩ := Option.bind_eq_some_iff.1 h
  clear h
  obtain ⟨rfl, rfl⟩ := spec_l23Put_D_ok ha
  obtain ⟨q, hq, h2⟩ := Option.bind_eq_some_iff.1 h1
  exact ⟨_, _, h2, (spec_l23Put_nf (a.1) (a.2) _ _).trans ((spec_l23Put_bind (a.1) (a.2) _).trans (by rw [hq]; rfl))⟩
/-! loop.example/g00249/spec.Plain -/
def spec_Plain_K (x0 : Int) {ρ : Type} (K : GWord → Option ρ) : Option ρ :=
  K (⟨bits .and .i64 x0 65535, false, (⟨0, 0, 0, 0⟩ : GKey)⟩ : GWord)
def spec_Plain (x0 : Int) : Option (GWord) := spec_Plain_K x0 some
theorem spec_Plain_bind (x0 : Int) {ρ : Type} (K : GWord → Option ρ) : spec_Plain_K x0 K = (spec_Plain x0).bind K := by
  simp only [spec_Plain, spec_Plain_K, Option.bind_assoc, Option.bind_some, Option.bind_none, cond_bind, sumK_bind]
noncomputable def spec_Plain_E : Env Row := envN false 239 0 [] []
theorem spec_Plain_nf (x0 : Int) (ρ : Type) (K : V → Heap Row → Option ρ) : evBody rowU spec_Plain_E (bodyC 239) [.c (.int .i64 x0)] [] K = spec_Plain_K x0 (fun r => K (.a [.int .i64 r.n, .bool r.is, .int .i64 r.key.base, .int .i64 r.key.top, .int .i64 r.key.perms, .int .i64 r.key.seal_]) []) := by kernel_rfl
def spec_Plain_D : List V → Heap Row → Option (Int)
  | [.c (.int .i64 v1)], [] => some (v1)
  | _, _ => none
theorem spec_Plain_D_ok {vs : List V} {W : Heap Row} {a : Int} (h : spec_Plain_D vs W = some a) : vs = [.c (.int .i64 (a))] ∧ W = [] := by
  unfold spec_Plain_D at h
  split at h
  · simp at h; subst h; exact ⟨rfl, rfl⟩
  · simp at h
def spec_Plain_C : Callee Row := ⟨[], fun _ vs W K => (spec_Plain_D vs W).bind fun a => (spec_Plain a).bind fun r => K (.a [.int .i64 r.n, .bool r.is, .int .i64 r.key.base, .int .i64 r.key.top, .int .i64 r.key.perms, .int .i64 r.key.seal_]) []⟩
theorem spec_Plain_ok : CalleeOk Try.prog rowU 239 spec_Plain_C := by
  refine calleeP (nl := false) (m0 := 0) (T := []) (H := []) TabOk.nil (by kernel_rfl) (by kernel_rfl) (fun p hp => nomatch hp) fun ρ vs W K r h => ?_
  obtain ⟨a, ha, h1⟩ := Option.bind_eq_some_iff.1 h
  clear h
  obtain ⟨rfl, rfl⟩ := spec_Plain_D_ok ha
  obtain ⟨q, hq, h2⟩ := Option.bind_eq_some_iff.1 h1
  exact ⟨_, _, h2, (spec_Plain_nf a _ _).trans ((spec_Plain_bind a _).trans (by rw [hq]; rfl))⟩
/-! loop.example/g00249/spec.KeyWord -/
noncomputable def spec_KeyWord_K (x0 : GKey) (x1 : Int) {ρ : Type} (K : GWord → Option ρ) : Option ρ :=
  Option.bind (spec_Plain x1) fun r1 =>
  Option.bind (spec_KeyOk x0) fun r2 =>
  cond r2
    (K (⟨r1.n, true, x0⟩ : GWord))
    (K r1)
noncomputable def spec_KeyWord (x0 : GKey) (x1 : Int) : Option (GWord) := spec_KeyWord_K x0 x1 some
theorem spec_KeyWord_bind (x0 : GKey) (x1 : Int) {ρ : Type} (K : GWord → Option ρ) : spec_KeyWord_K x0 x1 K = (spec_KeyWord x0 x1).bind K := by
  simp only [spec_KeyWord, spec_KeyWord_K, Option.bind_assoc, Option.bind_some, Option.bind_none, cond_bind, sumK_bind]
noncomputable def spec_KeyWord_E : Env Row := envN false 179 0 [(197, spec_KeyOk_C), (239, spec_Plain_C)] []
theorem spec_KeyWord_nf (x0 : GKey) (x1 : Int) (ρ : Type) (K : V → Heap Row → Option ρ) : evBody rowU spec_KeyWord_E (bodyC 179) [.a [.int .i64 x0.base, .int .i64 x0.top, .int .i64 x0.perms, .int .i64 x0.seal_], .c (.int .i64 x1)] [] K = spec_KeyWord_K x0 x1 (fun r => K (.a [.int .i64 r.n, .bool r.is, .int .i64 r.key.base, .int .i64 r.key.top, .int .i64 r.key.perms, .int .i64 r.key.seal_]) []) := by kernel_rfl
def spec_KeyWord_D : List V → Heap Row → Option (GKey × Int)
  | [.a (.int .i64 v1 :: .int .i64 v2 :: .int .i64 v3 :: .int .i64 v4 :: []), .c (.int .i64 v5)], [] => some (⟨v1, v2, v3, v4⟩, v5)
  | _, _ => none
theorem spec_KeyWord_D_ok {vs : List V} {W : Heap Row} {a : GKey × Int} (h : spec_KeyWord_D vs W = some a) : vs = [.a [.int .i64 (a.1).base, .int .i64 (a.1).top, .int .i64 (a.1).perms, .int .i64 (a.1).seal_], .c (.int .i64 (a.2))] ∧ W = [] := by
  unfold spec_KeyWord_D at h
  split at h
  · simp at h; subst h; exact ⟨rfl, rfl⟩
  · simp at h
noncomputable def spec_KeyWord_C : Callee Row := ⟨[], fun _ vs W K => (spec_KeyWord_D vs W).bind fun a => (spec_KeyWord a.1 a.2).bind fun r => K (.a [.int .i64 r.n, .bool r.is, .int .i64 r.key.base, .int .i64 r.key.top, .int .i64 r.key.perms, .int .i64 r.key.seal_]) []⟩
theorem spec_KeyWord_ok : CalleeOk Try.prog rowU 179 spec_KeyWord_C := by
  refine calleeP (nl := false) (m0 := 0) (T := [(197, spec_KeyOk_C), (239, spec_Plain_C)]) (H := []) (TabOk.cons spec_KeyOk_ok (TabOk.cons spec_Plain_ok TabOk.nil)) (by kernel_rfl) (by kernel_rfl) (fun p hp => nomatch hp) fun ρ vs W K r h => ?_
  obtain ⟨a, ha, h1⟩ := Option.bind_eq_some_iff.1 h
  clear h
  obtain ⟨rfl, rfl⟩ := spec_KeyWord_D_ok ha
  obtain ⟨q, hq, h2⟩ := Option.bind_eq_some_iff.1 h1
  exact ⟨_, _, h2, (spec_KeyWord_nf (a.1) (a.2) _ _).trans ((spec_KeyWord_bind (a.1) (a.2) _).trans (by rw [hq]; rfl))⟩
end Go.Eng
