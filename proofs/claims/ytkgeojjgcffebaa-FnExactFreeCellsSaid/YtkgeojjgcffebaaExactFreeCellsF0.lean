/- Functions of the program, as the evaluator tells them: printed by a program of ours. -/
import Derived.Test.YtkgeojjgcffebaaExactFreeCellsFS
set_option linter.unusedVariables false
set_option linter.unusedSimpArgs false
set_option maxRecDepth 20000
namespace Go.Eng
open Go.Proofs
/-! loop.example/g00249/laws.szWordS -/
def laws_szWordS_K (x0 : List GWord) (x1 : Int) {ρ : Type} (K : Int → Option ρ) : Option ρ :=
  cond (decide ((w64 (x1 - (((x0.length : Nat) : Int)))) < 0))
    (K (-1))
    (K (w64 (x1 - (((x0.length : Nat) : Int)))))
def laws_szWordS (x0 : List GWord) (x1 : Int) : Option (Int) := laws_szWordS_K x0 x1 some
theorem laws_szWordS_bind (x0 : List GWord) (x1 : Int) {ρ : Type} (K : Int → Option ρ) : laws_szWordS_K x0 x1 K = (laws_szWordS x0 x1).bind K := by
  simp only [laws_szWordS, laws_szWordS_K, Option.bind_assoc, Option.bind_some, Option.bind_none, cond_bind, sumK_bind]
noncomputable def laws_szWordS_E : Env Row := envN false 199 1 [] []
theorem laws_szWordS_nf (x0 : List GWord) (x1 : Int) (ρ : Type) (K : V → Heap Row → Option ρ) : evBody rowU laws_szWordS_E (bodyC 199) [.c (.sl 0 0), .c (.int .i64 x1)] [⟨.row ⟨.word, x0⟩, 0, 1⟩] K = laws_szWordS_K x0 x1 (fun r => K (.c (.int .i64 r)) [⟨.row ⟨.word, x0⟩, 0, 1⟩]) := by kernel_rfl
def laws_szWordS_D : List V → Heap Row → Option (List GWord × Int)
  | [.c (.sl 0 0), .c (.int .i64 v1)], [⟨.row ⟨.word, v2⟩, 0, 1⟩] => some (v2, v1)
  | _, _ => none
theorem laws_szWordS_D_ok {vs : List V} {W : Heap Row} {a : List GWord × Int} (h : laws_szWordS_D vs W = some a) : vs = [.c (.sl 0 0), .c (.int .i64 (a.2))] ∧ W = [⟨.row ⟨.word, a.1⟩, 0, 1⟩] := by
  unfold laws_szWordS_D at h
  split at h
  · simp at h; subst h; exact ⟨rfl, rfl⟩
  · simp at h
def laws_szWordS_C : Callee Row := ⟨[(false, 0)], fun _ vs W K => (laws_szWordS_D vs W).bind fun a => (laws_szWordS a.1 a.2).bind fun r => K (.c (.int .i64 r)) [⟨.row ⟨.word, a.1⟩, 0, 1⟩]⟩
theorem laws_szWordS_ok : CalleeOk Try.prog rowU 199 laws_szWordS_C := by
  refine calleeP (nl := false) (m0 := 1) (T := []) (H := []) TabOk.nil (by kernel_rfl) (by kernel_rfl) (fun p hp => nomatch hp) fun ρ vs W K r h => ?_
  obtain ⟨a, ha, h1⟩ := Option.bind_eq_some_iff.1 h
  clear h
  obtain ⟨rfl, rfl⟩ := laws_szWordS_D_ok ha
  obtain ⟨q, hq, h2⟩ := Option.bind_eq_some_iff.1 h1
  exact ⟨_, _, h2, (laws_szWordS_nf (a.1) (a.2) _ _).trans ((laws_szWordS_bind (a.1) (a.2) _).trans (by rw [hq]; rfl))⟩
/-! loop.example/g00249/laws.szBoolS -/
def laws_szBoolS_K (x0 : List Bool) (x1 : Int) {ρ : Type} (K : Int → Option ρ) : Option ρ :=
  cond (decide ((w64 (x1 - (((x0.length : Nat) : Int)))) < 0))
    (K (-1))
    (K (w64 (x1 - (((x0.length : Nat) : Int)))))
def laws_szBoolS (x0 : List Bool) (x1 : Int) : Option (Int) := laws_szBoolS_K x0 x1 some
theorem laws_szBoolS_bind (x0 : List Bool) (x1 : Int) {ρ : Type} (K : Int → Option ρ) : laws_szBoolS_K x0 x1 K = (laws_szBoolS x0 x1).bind K := by
  simp only [laws_szBoolS, laws_szBoolS_K, Option.bind_assoc, Option.bind_some, Option.bind_none, cond_bind, sumK_bind]
noncomputable def laws_szBoolS_E : Env Row := envN false 200 1 [] []
theorem laws_szBoolS_nf (x0 : List Bool) (x1 : Int) (ρ : Type) (K : V → Heap Row → Option ρ) : evBody rowU laws_szBoolS_E (bodyC 200) [.c (.sl 0 0), .c (.int .i64 x1)] [⟨.row ⟨.bool, x0⟩, 0, 1⟩] K = laws_szBoolS_K x0 x1 (fun r => K (.c (.int .i64 r)) [⟨.row ⟨.bool, x0⟩, 0, 1⟩]) := by kernel_rfl
def laws_szBoolS_D : List V → Heap Row → Option (List Bool × Int)
  | [.c (.sl 0 0), .c (.int .i64 v1)], [⟨.row ⟨.bool, v2⟩, 0, 1⟩] => some (v2, v1)
  | _, _ => none
theorem laws_szBoolS_D_ok {vs : List V} {W : Heap Row} {a : List Bool × Int} (h : laws_szBoolS_D vs W = some a) : vs = [.c (.sl 0 0), .c (.int .i64 (a.2))] ∧ W = [⟨.row ⟨.bool, a.1⟩, 0, 1⟩] := by
  unfold laws_szBoolS_D at h
  split at h
  · simp at h; subst h; exact ⟨rfl, rfl⟩
  · simp at h
def laws_szBoolS_C : Callee Row := ⟨[(false, 0)], fun _ vs W K => (laws_szBoolS_D vs W).bind fun a => (laws_szBoolS a.1 a.2).bind fun r => K (.c (.int .i64 r)) [⟨.row ⟨.bool, a.1⟩, 0, 1⟩]⟩
theorem laws_szBoolS_ok : CalleeOk Try.prog rowU 200 laws_szBoolS_C := by
  refine calleeP (nl := false) (m0 := 1) (T := []) (H := []) TabOk.nil (by kernel_rfl) (by kernel_rfl) (fun p hp => nomatch hp) fun ρ vs W K r h => ?_
  obtain ⟨a, ha, h1⟩ := Option.bind_eq_some_iff.1 h
  clear h
  obtain ⟨rfl, rfl⟩ := laws_szBoolS_D_ok ha
  obtain ⟨q, hq, h2⟩ := Option.bind_eq_some_iff.1 h1
  exact ⟨_, _, h2, (laws_szBoolS_nf (a.1) (a.2) _ _).trans ((laws_szBoolS_bind (a.1) (a.2) _).trans (by rw [hq]; rfl))⟩
/-! loop.example/g00249/laws.szMemory -/
def laws_szMemory_K (x0 : GMemory) (x1 : Int) {ρ : Type} (K : Int → Option ρ) : Option ρ :=
  Option.bind (laws_szWordS x0.words x1) fun r1 =>
  cond (decide (r1 < 0))
    (K (-1))
    (Option.bind (laws_szBoolS x0.gone r1) fun r2 =>
    cond (decide (r2 < 0))
      (K (-1))
      (K r2))
def laws_szMemory (x0 : GMemory) (x1 : Int) : Option (Int) := laws_szMemory_K x0 x1 some
theorem laws_szMemory_bind (x0 : GMemory) (x1 : Int) {ρ : Type} (K : Int → Option ρ) : laws_szMemory_K x0 x1 K = (laws_szMemory x0 x1).bind K := by
  simp only [laws_szMemory, laws_szMemory_K, Option.bind_assoc, Option.bind_some, Option.bind_none, cond_bind, sumK_bind]
noncomputable def laws_szMemory_E : Env Row := envN false 129 2 [(199, laws_szWordS_C), (200, laws_szBoolS_C)] []
theorem laws_szMemory_nf (x0 : GMemory) (x1 : Int) (ρ : Type) (K : V → Heap Row → Option ρ) : evBody rowU laws_szMemory_E (bodyC 129) [.a [.sl 0 0, .sl 1 0], .c (.int .i64 x1)] [⟨.row ⟨.word, x0.words⟩, 0, 1⟩, ⟨.row ⟨.bool, x0.gone⟩, 0, 1⟩] K = laws_szMemory_K x0 x1 (fun r => K (.c (.int .i64 r)) [⟨.row ⟨.word, x0.words⟩, 0, 1⟩, ⟨.row ⟨.bool, x0.gone⟩, 0, 1⟩]) := by kernel_rfl
def laws_szMemory_D : List V → Heap Row → Option (GMemory × Int)
  | [.a (.sl 0 0 :: .sl 1 0 :: []), .c (.int .i64 v1)], [⟨.row ⟨.word, v2⟩, 0, 1⟩, ⟨.row ⟨.bool, v3⟩, 0, 1⟩] => some (⟨v2, v3⟩, v1)
  | _, _ => none
theorem laws_szMemory_D_ok {vs : List V} {W : Heap Row} {a : GMemory × Int} (h : laws_szMemory_D vs W = some a) : vs = [.a [.sl 0 0, .sl 1 0], .c (.int .i64 (a.2))] ∧ W = [⟨.row ⟨.word, (a.1).words⟩, 0, 1⟩, ⟨.row ⟨.bool, (a.1).gone⟩, 0, 1⟩] := by
  unfold laws_szMemory_D at h
  split at h
  · simp at h; subst h; exact ⟨rfl, rfl⟩
  · simp at h
def laws_szMemory_C : Callee Row := ⟨[(false, 0), (false, 0)], fun _ vs W K => (laws_szMemory_D vs W).bind fun a => (laws_szMemory a.1 a.2).bind fun r => K (.c (.int .i64 r)) [⟨.row ⟨.word, (a.1).words⟩, 0, 1⟩, ⟨.row ⟨.bool, (a.1).gone⟩, 0, 1⟩]⟩
theorem laws_szMemory_ok : CalleeOk Try.prog rowU 129 laws_szMemory_C := by
  refine calleeP (nl := false) (m0 := 2) (T := [(199, laws_szWordS_C), (200, laws_szBoolS_C)]) (H := []) (TabOk.cons laws_szWordS_ok (TabOk.cons laws_szBoolS_ok TabOk.nil)) (by kernel_rfl) (by kernel_rfl) (fun p hp => nomatch hp) fun ρ vs W K r h => ?_
  obtain ⟨a, ha, h1⟩ := Option.bind_eq_some_iff.1 h
  clear h
  obtain ⟨rfl, rfl⟩ := laws_szMemory_D_ok ha
  obtain ⟨q, hq, h2⟩ := Option.bind_eq_some_iff.1 h1
  exact ⟨_, _, h2, (laws_szMemory_nf (a.1) (a.2) _ _).trans ((laws_szMemory_bind (a.1) (a.2) _).trans (by rw [hq]; rfl))⟩
/-! loop.example/g00249/laws.szSpanS -/
def laws_szSpanS_K (x0 : List GSpan) (x1 : Int) {ρ : Type} (K : Int → Option ρ) : Option ρ :=
  cond (decide ((w64 (x1 - (((x0.length : Nat) : Int)))) < 0))
    (K (-1))
    (K (w64 (x1 - (((x0.length : Nat) : Int)))))
def laws_szSpanS (x0 : List GSpan) (x1 : Int) : Option (Int) := laws_szSpanS_K x0 x1 some
theorem laws_szSpanS_bind (x0 : List GSpan) (x1 : Int) {ρ : Type} (K : Int → Option ρ) : laws_szSpanS_K x0 x1 K = (laws_szSpanS x0 x1).bind K := by
  simp only [laws_szSpanS, laws_szSpanS_K, Option.bind_assoc, Option.bind_some, Option.bind_none, cond_bind, sumK_bind]
noncomputable def laws_szSpanS_E : Env Row := envN false 130 1 [] []
theorem laws_szSpanS_nf (x0 : List GSpan) (x1 : Int) (ρ : Type) (K : V → Heap Row → Option ρ) : evBody rowU laws_szSpanS_E (bodyC 130) [.c (.sl 0 0), .c (.int .i64 x1)] [⟨.row ⟨.span, x0⟩, 0, 1⟩] K = laws_szSpanS_K x0 x1 (fun r => K (.c (.int .i64 r)) [⟨.row ⟨.span, x0⟩, 0, 1⟩]) := by kernel_rfl
def laws_szSpanS_D : List V → Heap Row → Option (List GSpan × Int)
  | [.c (.sl 0 0), .c (.int .i64 v1)], [⟨.row ⟨.span, v2⟩, 0, 1⟩] => some (v2, v1)
  | _, _ => none
theorem laws_szSpanS_D_ok {vs : List V} {W : Heap Row} {a : List GSpan × Int} (h : laws_szSpanS_D vs W = some a) : vs = [.c (.sl 0 0), .c (.int .i64 (a.2))] ∧ W = [⟨.row ⟨.span, a.1⟩, 0, 1⟩] := by
  unfold laws_szSpanS_D at h
  split at h
  · simp at h; subst h; exact ⟨rfl, rfl⟩
  · simp at h
def laws_szSpanS_C : Callee Row := ⟨[(false, 0)], fun _ vs W K => (laws_szSpanS_D vs W).bind fun a => (laws_szSpanS a.1 a.2).bind fun r => K (.c (.int .i64 r)) [⟨.row ⟨.span, a.1⟩, 0, 1⟩]⟩
theorem laws_szSpanS_ok : CalleeOk Try.prog rowU 130 laws_szSpanS_C := by
  refine calleeP (nl := false) (m0 := 1) (T := []) (H := []) TabOk.nil (by kernel_rfl) (by kernel_rfl) (fun p hp => nomatch hp) fun ρ vs W K r h => ?_
  obtain ⟨a, ha, h1⟩ := Option.bind_eq_some_iff.1 h
  clear h
  obtain ⟨rfl, rfl⟩ := laws_szSpanS_D_ok ha
  obtain ⟨q, hq, h2⟩ := Option.bind_eq_some_iff.1 h1
  exact ⟨_, _, h2, (laws_szSpanS_nf (a.1) (a.2) _ _).trans ((laws_szSpanS_bind (a.1) (a.2) _).trans (by rw [hq]; rfl))⟩
/-! loop.example/g00249/laws.szHeap -/
def laws_szHeap_K (x0 : GHeap) (x1 : Int) {ρ : Type} (K : Int → Option ρ) : Option ρ :=
  Option.bind (laws_szMemory x0.mem x1) fun r1 =>
  cond (decide (r1 < 0))
    (K (-1))
    (Option.bind (laws_szSpanS x0.live r1) fun r2 =>
    cond (decide (r2 < 0))
      (K (-1))
      (Option.bind (laws_szSpanS x0.waits r2) fun r3 =>
      cond (decide (r3 < 0))
        (K (-1))
        (K r3)))
def laws_szHeap (x0 : GHeap) (x1 : Int) : Option (Int) := laws_szHeap_K x0 x1 some
theorem laws_szHeap_bind (x0 : GHeap) (x1 : Int) {ρ : Type} (K : Int → Option ρ) : laws_szHeap_K x0 x1 K = (laws_szHeap x0 x1).bind K := by
  simp only [laws_szHeap, laws_szHeap_K, Option.bind_assoc, Option.bind_some, Option.bind_none, cond_bind, sumK_bind]
noncomputable def laws_szHeap_E : Env Row := envN false 34 4 [(129, laws_szMemory_C), (130, laws_szSpanS_C)] []
theorem laws_szHeap_nf (x0 : GHeap) (x1 : Int) (ρ : Type) (K : V → Heap Row → Option ρ) : evBody rowU laws_szHeap_E (bodyC 34) [.a [.sl 0 0, .sl 1 0, .sl 2 0, .sl 3 0], .c (.int .i64 x1)] [⟨.row ⟨.word, x0.mem.words⟩, 0, 1⟩, ⟨.row ⟨.bool, x0.mem.gone⟩, 0, 1⟩, ⟨.row ⟨.span, x0.live⟩, 0, 1⟩, ⟨.row ⟨.span, x0.waits⟩, 0, 1⟩] K = laws_szHeap_K x0 x1 (fun r => K (.c (.int .i64 r)) [⟨.row ⟨.word, x0.mem.words⟩, 0, 1⟩, ⟨.row ⟨.bool, x0.mem.gone⟩, 0, 1⟩, ⟨.row ⟨.span, x0.live⟩, 0, 1⟩, ⟨.row ⟨.span, x0.waits⟩, 0, 1⟩]) := by kernel_rfl
def laws_szHeap_D : List V → Heap Row → Option (GHeap × Int)
  | [.a (.sl 0 0 :: .sl 1 0 :: .sl 2 0 :: .sl 3 0 :: []), .c (.int .i64 v1)], [⟨.row ⟨.word, v2⟩, 0, 1⟩, ⟨.row ⟨.bool, v3⟩, 0, 1⟩, ⟨.row ⟨.span, v4⟩, 0, 1⟩, ⟨.row ⟨.span, v5⟩, 0, 1⟩] => some (⟨⟨v2, v3⟩, v4, v5⟩, v1)
  | _, _ => none
theorem laws_szHeap_D_ok {vs : List V} {W : Heap Row} {a : GHeap × Int} (h : laws_szHeap_D vs W = some a) : vs = [.a [.sl 0 0, .sl 1 0, .sl 2 0, .sl 3 0], .c (.int .i64 (a.2))] ∧ W = [⟨.row ⟨.word, (a.1).mem.words⟩, 0, 1⟩, ⟨.row ⟨.bool, (a.1).mem.gone⟩, 0, 1⟩, ⟨.row ⟨.span, (a.1).live⟩, 0, 1⟩, ⟨.row ⟨.span, (a.1).waits⟩, 0, 1⟩] := by
  unfold laws_szHeap_D at h
  split at h
  · simp at h; subst h; exact ⟨rfl, rfl⟩
  · simp at h
def laws_szHeap_C : Callee Row := ⟨[(false, 0), (false, 0), (false, 0), (false, 0)], fun _ vs W K => (laws_szHeap_D vs W).bind fun a => (laws_szHeap a.1 a.2).bind fun r => K (.c (.int .i64 r)) [⟨.row ⟨.word, (a.1).mem.words⟩, 0, 1⟩, ⟨.row ⟨.bool, (a.1).mem.gone⟩, 0, 1⟩, ⟨.row ⟨.span, (a.1).live⟩, 0, 1⟩, ⟨.row ⟨.span, (a.1).waits⟩, 0, 1⟩]⟩
theorem laws_szHeap_ok : CalleeOk Try.prog rowU 34 laws_szHeap_C := by
  refine calleeP (nl := false) (m0 := 4) (T := [(129, laws_szMemory_C), (130, laws_szSpanS_C)]) (H := []) (TabOk.cons laws_szMemory_ok (TabOk.cons laws_szSpanS_ok TabOk.nil)) (by kernel_rfl) (by kernel_rfl) (fun p hp => nomatch hp) fun ρ vs W K r h => ?_
  obtain ⟨a, ha, h1⟩ := Option.bind_eq_some_iff.1 h
  clear h
  obtain ⟨rfl, rfl⟩ := laws_szHeap_D_ok ha
  obtain ⟨q, hq, h2⟩ := Option.bind_eq_some_iff.1 h1
  exact ⟨_, _, h2, (laws_szHeap_nf (a.1) (a.2) _ _).trans ((laws_szHeap_bind (a.1) (a.2) _).trans (by rw [hq]; rfl))⟩
/-! loop.example/g00249/laws.toKey -/
def laws_toKey_K (x0 : GKey) {ρ : Type} (K : GKey → Option ρ) : Option ρ :=
  K x0
def laws_toKey (x0 : GKey) : Option (GKey) := laws_toKey_K x0 some
theorem laws_toKey_bind (x0 : GKey) {ρ : Type} (K : GKey → Option ρ) : laws_toKey_K x0 K = (laws_toKey x0).bind K := by
  simp only [laws_toKey, laws_toKey_K, Option.bind_assoc, Option.bind_some, Option.bind_none, cond_bind, sumK_bind]
noncomputable def laws_toKey_E : Env Row := envN false 291 0 [] []
theorem laws_toKey_nf (x0 : GKey) (ρ : Type) (K : V → Heap Row → Option ρ) : evBody rowU laws_toKey_E (bodyC 291) [.a [.int .i64 x0.base, .int .i64 x0.top, .int .i64 x0.perms, .int .i64 x0.seal_]] [] K = laws_toKey_K x0 (fun r => K (.a [.int .i64 r.base, .int .i64 r.top, .int .i64 r.perms, .int .i64 r.seal_]) []) := by kernel_rfl
def laws_toKey_D : List V → Heap Row → Option (GKey)
  | [.a (.int .i64 v1 :: .int .i64 v2 :: .int .i64 v3 :: .int .i64 v4 :: [])], [] => some (⟨v1, v2, v3, v4⟩)
  | _, _ => none
theorem laws_toKey_D_ok {vs : List V} {W : Heap Row} {a : GKey} (h : laws_toKey_D vs W = some a) : vs = [.a [.int .i64 (a).base, .int .i64 (a).top, .int .i64 (a).perms, .int .i64 (a).seal_]] ∧ W = [] := by
  unfold laws_toKey_D at h
  split at h
  · simp at h; subst h; exact ⟨rfl, rfl⟩
  · simp at h
def laws_toKey_C : Callee Row := ⟨[], fun _ vs W K => (laws_toKey_D vs W).bind fun a => (laws_toKey a).bind fun r => K (.a [.int .i64 r.base, .int .i64 r.top, .int .i64 r.perms, .int .i64 r.seal_]) []⟩
theorem laws_toKey_ok : CalleeOk Try.prog rowU 291 laws_toKey_C := by
  refine calleeP (nl := false) (m0 := 0) (T := []) (H := []) TabOk.nil (by kernel_rfl) (by kernel_rfl) (fun p hp => nomatch hp) fun ρ vs W K r h => ?_
  obtain ⟨a, ha, h1⟩ := Option.bind_eq_some_iff.1 h
  clear h
  obtain ⟨rfl, rfl⟩ := laws_toKey_D_ok ha
  obtain ⟨q, hq, h2⟩ := Option.bind_eq_some_iff.1 h1
  exact ⟨_, _, h2, (laws_toKey_nf a _ _).trans ((laws_toKey_bind a _).trans (by rw [hq]; rfl))⟩
/-! loop.example/g00249/laws.toWord -/
def laws_toWord_K (x0 : GWord) {ρ : Type} (K : GWord → Option ρ) : Option ρ :=
  Option.bind (laws_toKey x0.key) fun r1 =>
  K (⟨x0.n, x0.is, r1⟩ : GWord)
def laws_toWord (x0 : GWord) : Option (GWord) := laws_toWord_K x0 some
theorem laws_toWord_bind (x0 : GWord) {ρ : Type} (K : GWord → Option ρ) : laws_toWord_K x0 K = (laws_toWord x0).bind K := by
  simp only [laws_toWord, laws_toWord_K, Option.bind_assoc, Option.bind_some, Option.bind_none, cond_bind, sumK_bind]
noncomputable def laws_toWord_E : Env Row := envN false 251 0 [(291, laws_toKey_C)] []
theorem laws_toWord_nf (x0 : GWord) (ρ : Type) (K : V → Heap Row → Option ρ) : evBody rowU laws_toWord_E (bodyC 251) [.a [.int .i64 x0.n, .bool x0.is, .int .i64 x0.key.base, .int .i64 x0.key.top, .int .i64 x0.key.perms, .int .i64 x0.key.seal_]] [] K = laws_toWord_K x0 (fun r => K (.a [.int .i64 r.n, .bool r.is, .int .i64 r.key.base, .int .i64 r.key.top, .int .i64 r.key.perms, .int .i64 r.key.seal_]) []) := by kernel_rfl
def laws_toWord_D : List V → Heap Row → Option (GWord)
  | [.a (.int .i64 v1 :: .bool v2 :: .int .i64 v3 :: .int .i64 v4 :: .int .i64 v5 :: .int .i64 v6 :: [])], [] => some (⟨v1, v2, ⟨v3, v4, v5, v6⟩⟩)
  | _, _ => none
theorem laws_toWord_D_ok {vs : List V} {W : Heap Row} {a : GWord} (h : laws_toWord_D vs W = some a) : vs = [.a [.int .i64 (a).n, .bool (a).is, .int .i64 (a).key.base, .int .i64 (a).key.top, .int .i64 (a).key.perms, .int .i64 (a).key.seal_]] ∧ W = [] := by
  unfold laws_toWord_D at h
  split at h
  · simp at h; subst h; exact ⟨rfl, rfl⟩
  · simp at h
def laws_toWord_C : Callee Row := ⟨[], fun _ vs W K => (laws_toWord_D vs W).bind fun a => (laws_toWord a).bind fun r => K (.a [.int .i64 r.n, .bool r.is, .int .i64 r.key.base, .int .i64 r.key.top, .int .i64 r.key.perms, .int .i64 r.key.seal_]) []⟩
theorem laws_toWord_ok : CalleeOk Try.prog rowU 251 laws_toWord_C := by
  refine calleeP (nl := false) (m0 := 0) (T := [(291, laws_toKey_C)]) (H := []) (TabOk.cons laws_toKey_ok TabOk.nil) (by kernel_rfl) (by kernel_rfl) (fun p hp => nomatch hp) fun ρ vs W K r h => ?_
  obtain ⟨a, ha, h1⟩ := Option.bind_eq_some_iff.1 h
  clear h
  obtain ⟨rfl, rfl⟩ := laws_toWord_D_ok ha
  obtain ⟨q, hq, h2⟩ := Option.bind_eq_some_iff.1 h1
  exact ⟨_, _, h2, (laws_toWord_nf a _ _).trans ((laws_toWord_bind a _).trans (by rw [hq]; rfl))⟩
/-! loop.example/g00249/laws.toWordS -/
noncomputable def laws_toWordS_L0_K (l0 : List GWord) (l1 : List GWord) (n2 : Int) {ρ : Type} (A : List GWord × Int → Option ρ) (X : List GWord → Option ρ) (R : Unit → Option ρ) : Option ρ :=
  cond (decide (n2 < (((l0.length : Nat) : Int))))
    (cond (decide (0 ≤ n2)) (cond (decide (n2 < (((l0.length : Nat) : Int)))) (Option.bind (laws_toWord (List.getD l0 (n2.toNat) (default))) fun r1 =>
    cond (decide (0 ≤ n2)) (cond (decide (n2 < (((l1.length : Nat) : Int)))) (A (List.set l1 (n2.toNat) r1, w64 (n2 + 1))) none) none) none) none)
    (X l1)
noncomputable def laws_toWordS_L0_step (l0 : List GWord) (s : List GWord × Int) : Option (Rnd (List GWord × Int) (List GWord) (Unit)) := laws_toWordS_L0_K l0 (s.1) (s.2) (fun s => some (.again s)) (fun t => some (.exit t)) (fun k => some (.ret k))
theorem laws_toWordS_L0_bind (l0 : List GWord) (s : List GWord × Int) {ρ : Type} (A : List GWord × Int → Option ρ) (X : List GWord → Option ρ) (R : Unit → Option ρ) : laws_toWordS_L0_K l0 (s.1) (s.2) A X R = (laws_toWordS_L0_step l0 s).bind (rndE A X R) := by
  simp only [laws_toWordS_L0_step, laws_toWordS_L0_K, Option.bind_assoc, Option.bind_some, Option.bind_none, cond_bind, sumK_bind, rndE_again, rndE_exit, rndE_ret]
def laws_toWordS_L0_st (p : List GWord) (s : List GWord × Int) : List V × Heap Row := ([.c (.sl 0 0), .c (.sl 1 0), .c (.int .i64 (s.2))], [⟨.row ⟨.word, p⟩, 0, 1⟩, ⟨.row ⟨.word, s.1⟩, 0, 2⟩])
def laws_toWordS_L0_so (p : List GWord) (t : List GWord) : List V × Heap Row := ([.c (.sl 1 0)], [⟨.row ⟨.word, p⟩, 0, 1⟩, ⟨.row ⟨.word, t⟩, 0, 2⟩])
def laws_toWordS_L0_D : List V → Heap Row → Option ((List GWord) × (List GWord × Int))
  | [.c (.sl 0 0), .c (.sl 1 0), .c (.int .i64 v1)], [⟨.row ⟨.word, v2⟩, 0, 1⟩, ⟨.row ⟨.word, v3⟩, 0, 2⟩] => some ((v2), (v3, v1))
  | _, _ => none
theorem laws_toWordS_L0_D_ok (vs : List V) (L : Heap Row) (p : List GWord) (s : List GWord × Int) (h : laws_toWordS_L0_D vs L = some (p, s)) : laws_toWordS_L0_st p s = (vs, L) := by
  unfold laws_toWordS_L0_D at h
  split at h
  · simp at h; obtain ⟨rfl, rfl⟩ := h; rfl
  · simp at h
noncomputable def laws_toWordS_L0_H : LoopH Row := loopX [0, 3, 4] [3] laws_toWordS_L0_D (fun p => laws_toWordS_L0_step p) laws_toWordS_L0_so
theorem laws_toWordS_L0_nf (p : List GWord) (s : List GWord × Int) (ρ : Type) (again Kx Kr : List V → Heap Row → Option ρ) : evRound rowU (envOf 204 1 [(251, laws_toWord_C)] [(0, laws_toWordS_L0_H)]) 0 laws_toWordS_L0_H (loopC 204 0) again (laws_toWordS_L0_st p s).1 (laws_toWordS_L0_st p s).2 Kx Kr = laws_toWordS_L0_K p (s.1) (s.2) (fun s => again (laws_toWordS_L0_st p s).1 (laws_toWordS_L0_st p s).2) (fun t => Kx (laws_toWordS_L0_so p t).1 (laws_toWordS_L0_so p t).2) (fun _ => none) := by kernel_rfl
theorem laws_toWordS_L0_ok (hb : LoopsOk Try.prog rowU (envOf 204 1 [(251, laws_toWord_C)] [(0, laws_toWordS_L0_H)]) (loopAt (codeP 204) 0)) : LoopOk Try.prog rowU (envOf 204 1 [(251, laws_toWord_C)] [(0, laws_toWordS_L0_H)]) 0 (loopAt (codeP 204) 0) laws_toWordS_L0_H :=
  loopX_ok tagOk mixed envNl (envT (TabOk.cons laws_toWord_ok TabOk.nil)) hb laws_toWordS_L0_st laws_toWordS_L0_D_ok fun p s ρ A Kx Kr => (laws_toWordS_L0_nf p s ρ A Kx Kr).trans (laws_toWordS_L0_bind p s _ _ _)
noncomputable def laws_toWordS_K (x0 : List GWord) {ρ : Type} (K : List GWord → Option ρ) : Option ρ :=
  cond (decide (0 ≤ (((x0.length : Nat) : Int)))) (cond (decide (((((x0.length : Nat) : Int)) * 48) ≤ 281474976710656)) (Option.bind (runX (laws_toWordS_L0_step x0) (List.replicate ((((x0.length : Nat) : Int)).toNat) (⟨0, false, (⟨0, 0, 0, 0⟩ : GKey)⟩ : GWord), 0)) fun t2 =>
  K t2) none) none
noncomputable def laws_toWordS (x0 : List GWord) : Option (List GWord) := laws_toWordS_K x0 some
theorem laws_toWordS_bind (x0 : List GWord) {ρ : Type} (K : List GWord → Option ρ) : laws_toWordS_K x0 K = (laws_toWordS x0).bind K := by
  simp only [laws_toWordS, laws_toWordS_K, Option.bind_assoc, Option.bind_some, Option.bind_none, cond_bind, sumK_bind]
noncomputable def laws_toWordS_E : Env Row := envN false 204 1 [(251, laws_toWord_C)] [(0, laws_toWordS_L0_H)]
theorem laws_toWordS_nf (x0 : List GWord) (ρ : Type) (K : V → Heap Row → Option ρ) : evBody rowU laws_toWordS_E (bodyC 204) [.c (.sl 0 0)] [⟨.row ⟨.word, x0⟩, 0, 1⟩] K = laws_toWordS_K x0 (fun r => K (.c (.sl 1 0)) [⟨.row ⟨.word, x0⟩, 0, 1⟩, ⟨.row ⟨.word, r⟩, 0, 2⟩]) := by kernel_rfl
def laws_toWordS_D : List V → Heap Row → Option (List GWord)
  | [.c (.sl 0 0)], [⟨.row ⟨.word, v1⟩, 0, 1⟩] => some (v1)
  | _, _ => none
theorem laws_toWordS_D_ok {vs : List V} {W : Heap Row} {a : List GWord} (h : laws_toWordS_D vs W = some a) : vs = [.c (.sl 0 0)] ∧ W = [⟨.row ⟨.word, a⟩, 0, 1⟩] := by
  unfold laws_toWordS_D at h
  split at h
  · simp at h; subst h; exact ⟨rfl, rfl⟩
  · simp at h
noncomputable def laws_toWordS_C : Callee Row := ⟨[(false, 0)], fun _ vs W K => (laws_toWordS_D vs W).bind fun a => (laws_toWordS a).bind fun r => K (.c (.sl 1 0)) [⟨.row ⟨.word, a⟩, 0, 1⟩, ⟨.row ⟨.word, r⟩, 0, 2⟩]⟩
theorem laws_toWordS_ok : CalleeOk Try.prog rowU 204 laws_toWordS_C := by
  refine calleeP (nl := false) (m0 := 1) (T := [(251, laws_toWord_C)]) (H := [(0, laws_toWordS_L0_H)]) (TabOk.cons laws_toWord_ok TabOk.nil) (by kernel_rfl) (by kernel_rfl) (fun p hp hb => by
    simp only [List.mem_cons, List.not_mem_nil, or_false] at hp
    subst hp
    exact laws_toWordS_L0_ok hb) fun ρ vs W K r h => ?_
  obtain ⟨a, ha, h1⟩ := Option.bind_eq_some_iff.1 h
  clear h
  obtain ⟨rfl, rfl⟩ := laws_toWordS_D_ok ha
  obtain ⟨q, hq, h2⟩ := Option.bind_eq_some_iff.1 h1
  exact ⟨_, _, h2, (laws_toWordS_nf a _ _).trans ((laws_toWordS_bind a _).trans (by rw [hq]; rfl))⟩
/-! loop.example/g00249/laws.toBoolS -/
noncomputable def laws_toBoolS_L0_K (l0 : List Bool) (l1 : List Bool) (n2 : Int) {ρ : Type} (A : List Bool × Int → Option ρ) (X : List Bool → Option ρ) (R : Unit → Option ρ) : Option ρ :=
  cond (decide (n2 < (((l0.length : Nat) : Int))))
    (cond (decide (0 ≤ n2)) (cond (decide (n2 < (((l0.length : Nat) : Int)))) (cond (decide (0 ≤ n2)) (cond (decide (n2 < (((l1.length : Nat) : Int)))) (A (List.set l1 (n2.toNat) (List.getD l0 (n2.toNat) false), w64 (n2 + 1))) none) none) none) none)
    (X l1)
noncomputable def laws_toBoolS_L0_step (l0 : List Bool) (s : List Bool × Int) : Option (Rnd (List Bool × Int) (List Bool) (Unit)) := laws_toBoolS_L0_K l0 (s.1) (s.2) (fun s => some (.again s)) (fun t => some (.exit t)) (fun k => some (.ret k))
theorem laws_toBoolS_L0_bind (l0 : List Bool) (s : List Bool × Int) {ρ : Type} (A : List Bool × Int → Option ρ) (X : List Bool → Option ρ) (R : Unit → Option ρ) : laws_toBoolS_L0_K l0 (s.1) (s.2) A X R = (laws_toBoolS_L0_step l0 s).bind (rndE A X R) := by
  simp only [laws_toBoolS_L0_step, laws_toBoolS_L0_K, Option.bind_assoc, Option.bind_some, Option.bind_none, cond_bind, sumK_bind, rndE_again, rndE_exit, rndE_ret]
def laws_toBoolS_L0_st (p : List Bool) (s : List Bool × Int) : List V × Heap Row := ([.c (.sl 0 0), .c (.sl 1 0), .c (.int .i64 (s.2))], [⟨.row ⟨.bool, p⟩, 0, 1⟩, ⟨.row ⟨.bool, s.1⟩, 0, 2⟩])
def laws_toBoolS_L0_so (p : List Bool) (t : List Bool) : List V × Heap Row := ([.c (.sl 1 0)], [⟨.row ⟨.bool, p⟩, 0, 1⟩, ⟨.row ⟨.bool, t⟩, 0, 2⟩])
def laws_toBoolS_L0_D : List V → Heap Row → Option ((List Bool) × (List Bool × Int))
  | [.c (.sl 0 0), .c (.sl 1 0), .c (.int .i64 v1)], [⟨.row ⟨.bool, v2⟩, 0, 1⟩, ⟨.row ⟨.bool, v3⟩, 0, 2⟩] => some ((v2), (v3, v1))
  | _, _ => none
theorem laws_toBoolS_L0_D_ok (vs : List V) (L : Heap Row) (p : List Bool) (s : List Bool × Int) (h : laws_toBoolS_L0_D vs L = some (p, s)) : laws_toBoolS_L0_st p s = (vs, L) := by
  unfold laws_toBoolS_L0_D at h
  split at h
  · simp at h; obtain ⟨rfl, rfl⟩ := h; rfl
  · simp at h
noncomputable def laws_toBoolS_L0_H : LoopH Row := loopX [0, 3, 4] [3] laws_toBoolS_L0_D (fun p => laws_toBoolS_L0_step p) laws_toBoolS_L0_so
theorem laws_toBoolS_L0_nf (p : List Bool) (s : List Bool × Int) (ρ : Type) (again Kx Kr : List V → Heap Row → Option ρ) : evRound rowU (envOf 205 1 [] [(0, laws_toBoolS_L0_H)]) 0 laws_toBoolS_L0_H (loopC 205 0) again (laws_toBoolS_L0_st p s).1 (laws_toBoolS_L0_st p s).2 Kx Kr = laws_toBoolS_L0_K p (s.1) (s.2) (fun s => again (laws_toBoolS_L0_st p s).1 (laws_toBoolS_L0_st p s).2) (fun t => Kx (laws_toBoolS_L0_so p t).1 (laws_toBoolS_L0_so p t).2) (fun _ => none) := by kernel_rfl
theorem laws_toBoolS_L0_ok (hb : LoopsOk Try.prog rowU (envOf 205 1 [] [(0, laws_toBoolS_L0_H)]) (loopAt (codeP 205) 0)) : LoopOk Try.prog rowU (envOf 205 1 [] [(0, laws_toBoolS_L0_H)]) 0 (loopAt (codeP 205) 0) laws_toBoolS_L0_H :=
  loopX_ok tagOk mixed envNl (envT TabOk.nil) hb laws_toBoolS_L0_st laws_toBoolS_L0_D_ok fun p s ρ A Kx Kr => (laws_toBoolS_L0_nf p s ρ A Kx Kr).trans (laws_toBoolS_L0_bind p s _ _ _)
noncomputable def laws_toBoolS_K (x0 : List Bool) {ρ : Type} (K : List Bool → Option ρ) : Option ρ :=
  cond (decide (0 ≤ (((x0.length : Nat) : Int)))) (cond (decide (((((x0.length : Nat) : Int)) * 1) ≤ 281474976710656)) (Option.bind (runX (laws_toBoolS_L0_step x0) (List.replicate ((((x0.length : Nat) : Int)).toNat) false, 0)) fun t1 =>
  K t1) none) none
noncomputable def laws_toBoolS (x0 : List Bool) : Option (List Bool) := laws_toBoolS_K x0 some
theorem laws_toBoolS_bind (x0 : List Bool) {ρ : Type} (K : List Bool → Option ρ) : laws_toBoolS_K x0 K = (laws_toBoolS x0).bind K := by
  simp only [laws_toBoolS, laws_toBoolS_K, Option.bind_assoc, Option.bind_some, Option.bind_none, cond_bind, sumK_bind]
noncomputable def laws_toBoolS_E : Env Row := envN false 205 1 [] [(0, laws_toBoolS_L0_H)]
theorem laws_toBoolS_nf (x0 : List Bool) (ρ : Type) (K : V → Heap Row → Option ρ) : evBody rowU laws_toBoolS_E (bodyC 205) [.c (.sl 0 0)] [⟨.row ⟨.bool, x0⟩, 0, 1⟩] K = laws_toBoolS_K x0 (fun r => K (.c (.sl 1 0)) [⟨.row ⟨.bool, x0⟩, 0, 1⟩, ⟨.row ⟨.bool, r⟩, 0, 2⟩]) := by kernel_rfl
def laws_toBoolS_D : List V → Heap Row → Option (List Bool)
  | [.c (.sl 0 0)], [⟨.row ⟨.bool, v1⟩, 0, 1⟩] => some (v1)
  | _, _ => none
theorem laws_toBoolS_D_ok {vs : List V} {W : Heap Row} {a : List Bool} (h : laws_toBoolS_D vs W = some a) : vs = [.c (.sl 0 0)] ∧ W = [⟨.row ⟨.bool, a⟩, 0, 1⟩] := by
  unfold laws_toBoolS_D at h
  split at h
  · simp at h; subst h; exact ⟨rfl, rfl⟩
  · simp at h
noncomputable def laws_toBoolS_C : Callee Row := ⟨[(false, 0)], fun _ vs W K => (laws_toBoolS_D vs W).bind fun a => (laws_toBoolS a).bind fun r => K (.c (.sl 1 0)) [⟨.row ⟨.bool, a⟩, 0, 1⟩, ⟨.row ⟨.bool, r⟩, 0, 2⟩]⟩
theorem laws_toBoolS_ok : CalleeOk Try.prog rowU 205 laws_toBoolS_C := by
  refine calleeP (nl := false) (m0 := 1) (T := []) (H := [(0, laws_toBoolS_L0_H)]) TabOk.nil (by kernel_rfl) (by kernel_rfl) (fun p hp hb => by
    simp only [List.mem_cons, List.not_mem_nil, or_false] at hp
    subst hp
    exact laws_toBoolS_L0_ok hb) fun ρ vs W K r h => ?_
  obtain ⟨a, ha, h1⟩ := Option.bind_eq_some_iff.1 h
  clear h
  obtain ⟨rfl, rfl⟩ := laws_toBoolS_D_ok ha
  obtain ⟨q, hq, h2⟩ := Option.bind_eq_some_iff.1 h1
  exact ⟨_, _, h2, (laws_toBoolS_nf a _ _).trans ((laws_toBoolS_bind a _).trans (by rw [hq]; rfl))⟩
/-! loop.example/g00249/laws.toMemory -/
noncomputable def laws_toMemory_K (x0 : GMemory) {ρ : Type} (K : GMemory → Option ρ) : Option ρ :=
  Option.bind (laws_toWordS x0.words) fun r1 =>
  Option.bind (laws_toBoolS x0.gone) fun r2 =>
  K (⟨r1, r2⟩ : GMemory)
noncomputable def laws_toMemory (x0 : GMemory) : Option (GMemory) := laws_toMemory_K x0 some
theorem laws_toMemory_bind (x0 : GMemory) {ρ : Type} (K : GMemory → Option ρ) : laws_toMemory_K x0 K = (laws_toMemory x0).bind K := by
  simp only [laws_toMemory, laws_toMemory_K, Option.bind_assoc, Option.bind_some, Option.bind_none, cond_bind, sumK_bind]
noncomputable def laws_toMemory_E : Env Row := envN false 133 2 [(204, laws_toWordS_C), (205, laws_toBoolS_C)] []
theorem laws_toMemory_nf (x0 : GMemory) (ρ : Type) (K : V → Heap Row → Option ρ) : evBody rowU laws_toMemory_E (bodyC 133) [.a [.sl 0 0, .sl 1 0]] [⟨.row ⟨.word, x0.words⟩, 0, 1⟩, ⟨.row ⟨.bool, x0.gone⟩, 0, 1⟩] K = laws_toMemory_K x0 (fun r => K (.a [.sl 2 0, .sl 3 0]) [⟨.row ⟨.word, x0.words⟩, 0, 1⟩, ⟨.row ⟨.bool, x0.gone⟩, 0, 1⟩, ⟨.row ⟨.word, r.words⟩, 0, 2⟩, ⟨.row ⟨.bool, r.gone⟩, 0, 2⟩]) := by kernel_rfl
def laws_toMemory_D : List V → Heap Row → Option (GMemory)
  | [.a (.sl 0 0 :: .sl 1 0 :: [])], [⟨.row ⟨.word, v1⟩, 0, 1⟩, ⟨.row ⟨.bool, v2⟩, 0, 1⟩] => some (⟨v1, v2⟩)
  | _, _ => none
theorem laws_toMemory_D_ok {vs : List V} {W : Heap Row} {a : GMemory} (h : laws_toMemory_D vs W = some a) : vs = [.a [.sl 0 0, .sl 1 0]] ∧ W = [⟨.row ⟨.word, (a).words⟩, 0, 1⟩, ⟨.row ⟨.bool, (a).gone⟩, 0, 1⟩] := by
  unfold laws_toMemory_D at h
  split at h
  · simp at h; subst h; exact ⟨rfl, rfl⟩
  · simp at h
noncomputable def laws_toMemory_C : Callee Row := ⟨[(false, 0), (false, 0)], fun _ vs W K => (laws_toMemory_D vs W).bind fun a => (laws_toMemory a).bind fun r => K (.a [.sl 2 0, .sl 3 0]) [⟨.row ⟨.word, (a).words⟩, 0, 1⟩, ⟨.row ⟨.bool, (a).gone⟩, 0, 1⟩, ⟨.row ⟨.word, r.words⟩, 0, 2⟩, ⟨.row ⟨.bool, r.gone⟩, 0, 2⟩]⟩
theorem laws_toMemory_ok : CalleeOk Try.prog rowU 133 laws_toMemory_C := by
  refine calleeP (nl := false) (m0 := 2) (T := [(204, laws_toWordS_C), (205, laws_toBoolS_C)]) (H := []) (TabOk.cons laws_toWordS_ok (TabOk.cons laws_toBoolS_ok TabOk.nil)) (by kernel_rfl) (by kernel_rfl) (fun p hp => nomatch hp) fun ρ vs W K r h => ?_
  obtain ⟨a, ha, h1⟩ := Option.bind_eq_some_iff.1 h
  clear h
  obtain ⟨rfl, rfl⟩ := laws_toMemory_D_ok ha
  obtain ⟨q, hq, h2⟩ := Option.bind_eq_some_iff.1 h1
  exact ⟨_, _, h2, (laws_toMemory_nf a _ _).trans ((laws_toMemory_bind a _).trans (by rw [hq]; rfl))⟩
/-! loop.example/g00249/laws.toSpan -/
def laws_toSpan_K (x0 : GSpan) {ρ : Type} (K : GSpan → Option ρ) : Option ρ :=
  K x0
def laws_toSpan (x0 : GSpan) : Option (GSpan) := laws_toSpan_K x0 some
theorem laws_toSpan_bind (x0 : GSpan) {ρ : Type} (K : GSpan → Option ρ) : laws_toSpan_K x0 K = (laws_toSpan x0).bind K := by
  simp only [laws_toSpan, laws_toSpan_K, Option.bind_assoc, Option.bind_some, Option.bind_none, cond_bind, sumK_bind]
noncomputable def laws_toSpan_E : Env Row := envN false 206 0 [] []
theorem laws_toSpan_nf (x0 : GSpan) (ρ : Type) (K : V → Heap Row → Option ρ) : evBody rowU laws_toSpan_E (bodyC 206) [.a [.int .i64 x0.at_, .int .i64 x0.len]] [] K = laws_toSpan_K x0 (fun r => K (.a [.int .i64 r.at_, .int .i64 r.len]) []) := by kernel_rfl
def laws_toSpan_D : List V → Heap Row → Option (GSpan)
  | [.a (.int .i64 v1 :: .int .i64 v2 :: [])], [] => some (⟨v1, v2⟩)
  | _, _ => none
theorem laws_toSpan_D_ok {vs : List V} {W : Heap Row} {a : GSpan} (h : laws_toSpan_D vs W = some a) : vs = [.a [.int .i64 (a).at_, .int .i64 (a).len]] ∧ W = [] := by
  unfold laws_toSpan_D at h
  split at h
  · simp at h; subst h; exact ⟨rfl, rfl⟩
  · simp at h
def laws_toSpan_C : Callee Row := ⟨[], fun _ vs W K => (laws_toSpan_D vs W).bind fun a => (laws_toSpan a).bind fun r => K (.a [.int .i64 r.at_, .int .i64 r.len]) []⟩
theorem laws_toSpan_ok : CalleeOk Try.prog rowU 206 laws_toSpan_C := by
  refine calleeP (nl := false) (m0 := 0) (T := []) (H := []) TabOk.nil (by kernel_rfl) (by kernel_rfl) (fun p hp => nomatch hp) fun ρ vs W K r h => ?_
  obtain ⟨a, ha, h1⟩ := Option.bind_eq_some_iff.1 h
  clear h
  obtain ⟨rfl, rfl⟩ := laws_toSpan_D_ok ha
  obtain ⟨q, hq, h2⟩ := Option.bind_eq_some_iff.1 h1
  exact ⟨_, _, h2, (laws_toSpan_nf a _ _).trans ((laws_toSpan_bind a _).trans (by rw [hq]; rfl))⟩
/-! loop.example/g00249/laws.toSpanS -/
noncomputable def laws_toSpanS_L0_K (l0 : List GSpan) (l1 : List GSpan) (n2 : Int) {ρ : Type} (A : List GSpan × Int → Option ρ) (X : List GSpan → Option ρ) (R : Unit → Option ρ) : Option ρ :=
  cond (decide (n2 < (((l0.length : Nat) : Int))))
    (cond (decide (0 ≤ n2)) (cond (decide (n2 < (((l0.length : Nat) : Int)))) (Option.bind (laws_toSpan (List.getD l0 (n2.toNat) (default))) fun r1 =>
    cond (decide (0 ≤ n2)) (cond (decide (n2 < (((l1.length : Nat) : Int)))) (A (List.set l1 (n2.toNat) r1, w64 (n2 + 1))) none) none) none) none)
    (X l1)
noncomputable def laws_toSpanS_L0_step (l0 : List GSpan) (s : List GSpan × Int) : Option (Rnd (List GSpan × Int) (List GSpan) (Unit)) := laws_toSpanS_L0_K l0 (s.1) (s.2) (fun s => some (.again s)) (fun t => some (.exit t)) (fun k => some (.ret k))
theorem laws_toSpanS_L0_bind (l0 : List GSpan) (s : List GSpan × Int) {ρ : Type} (A : List GSpan × Int → Option ρ) (X : List GSpan → Option ρ) (R : Unit → Option ρ) : laws_toSpanS_L0_K l0 (s.1) (s.2) A X R = (laws_toSpanS_L0_step l0 s).bind (rndE A X R) := by
  simp only [laws_toSpanS_L0_step, laws_toSpanS_L0_K, Option.bind_assoc, Option.bind_some, Option.bind_none, cond_bind, sumK_bind, rndE_again, rndE_exit, rndE_ret]
def laws_toSpanS_L0_st (p : List GSpan) (s : List GSpan × Int) : List V × Heap Row := ([.c (.sl 0 0), .c (.sl 1 0), .c (.int .i64 (s.2))], [⟨.row ⟨.span, p⟩, 0, 1⟩, ⟨.row ⟨.span, s.1⟩, 0, 2⟩])
def laws_toSpanS_L0_so (p : List GSpan) (t : List GSpan) : List V × Heap Row := ([.c (.sl 1 0)], [⟨.row ⟨.span, p⟩, 0, 1⟩, ⟨.row ⟨.span, t⟩, 0, 2⟩])
def laws_toSpanS_L0_D : List V → Heap Row → Option ((List GSpan) × (List GSpan × Int))
  | [.c (.sl 0 0), .c (.sl 1 0), .c (.int .i64 v1)], [⟨.row ⟨.span, v2⟩, 0, 1⟩, ⟨.row ⟨.span, v3⟩, 0, 2⟩] => some ((v2), (v3, v1))
  | _, _ => none
theorem laws_toSpanS_L0_D_ok (vs : List V) (L : Heap Row) (p : List GSpan) (s : List GSpan × Int) (h : laws_toSpanS_L0_D vs L = some (p, s)) : laws_toSpanS_L0_st p s = (vs, L) := by
  unfold laws_toSpanS_L0_D at h
  split at h
  · simp at h; obtain ⟨rfl, rfl⟩ := h; rfl
  · simp at h
noncomputable def laws_toSpanS_L0_H : LoopH Row := loopX [0, 3, 4] [3] laws_toSpanS_L0_D (fun p => laws_toSpanS_L0_step p) laws_toSpanS_L0_so
theorem laws_toSpanS_L0_nf (p : List GSpan) (s : List GSpan × Int) (ρ : Type) (again Kx Kr : List V → Heap Row → Option ρ) : evRound rowU (envOf 134 1 [(206, laws_toSpan_C)] [(0, laws_toSpanS_L0_H)]) 0 laws_toSpanS_L0_H (loopC 134 0) again (laws_toSpanS_L0_st p s).1 (laws_toSpanS_L0_st p s).2 Kx Kr = laws_toSpanS_L0_K p (s.1) (s.2) (fun s => again (laws_toSpanS_L0_st p s).1 (laws_toSpanS_L0_st p s).2) (fun t => Kx (laws_toSpanS_L0_so p t).1 (laws_toSpanS_L0_so p t).2) (fun _ => none) := by kernel_rfl
theorem laws_toSpanS_L0_ok (hb : LoopsOk Try.prog rowU (envOf 134 1 [(206, laws_toSpan_C)] [(0, laws_toSpanS_L0_H)]) (loopAt (codeP 134) 0)) : LoopOk Try.prog rowU (envOf 134 1 [(206, laws_toSpan_C)] [(0, laws_toSpanS_L0_H)]) 0 (loopAt (codeP 134) 0) laws_toSpanS_L0_H :=
  loopX_ok tagOk mixed envNl (envT (TabOk.cons laws_toSpan_ok TabOk.nil)) hb laws_toSpanS_L0_st laws_toSpanS_L0_D_ok fun p s ρ A Kx Kr => (laws_toSpanS_L0_nf p s ρ A Kx Kr).trans (laws_toSpanS_L0_bind p s _ _ _)
noncomputable def laws_toSpanS_K (x0 : List GSpan) {ρ : Type} (K : List GSpan → Option ρ) : Option ρ :=
  cond (decide (0 ≤ (((x0.length : Nat) : Int)))) (cond (decide (((((x0.length : Nat) : Int)) * 16) ≤ 281474976710656)) (Option.bind (runX (laws_toSpanS_L0_step x0) (List.replicate ((((x0.length : Nat) : Int)).toNat) (⟨0, 0⟩ : GSpan), 0)) fun t2 =>
  K t2) none) none
noncomputable def laws_toSpanS (x0 : List GSpan) : Option (List GSpan) := laws_toSpanS_K x0 some
theorem laws_toSpanS_bind (x0 : List GSpan) {ρ : Type} (K : List GSpan → Option ρ) : laws_toSpanS_K x0 K = (laws_toSpanS x0).bind K := by
  simp only [laws_toSpanS, laws_toSpanS_K, Option.bind_assoc, Option.bind_some, Option.bind_none, cond_bind, sumK_bind]
noncomputable def laws_toSpanS_E : Env Row := envN false 134 1 [(206, laws_toSpan_C)] [(0, laws_toSpanS_L0_H)]
theorem laws_toSpanS_nf (x0 : List GSpan) (ρ : Type) (K : V → Heap Row → Option ρ) : evBody rowU laws_toSpanS_E (bodyC 134) [.c (.sl 0 0)] [⟨.row ⟨.span, x0⟩, 0, 1⟩] K = laws_toSpanS_K x0 (fun r => K (.c (.sl 1 0)) [⟨.row ⟨.span, x0⟩, 0, 1⟩, ⟨.row ⟨.span, r⟩, 0, 2⟩]) := by kernel_rfl
def laws_toSpanS_D : List V → Heap Row → Option (List GSpan)
  | [.c (.sl 0 0)], [⟨.row ⟨.span, v1⟩, 0, 1⟩] => some (v1)
  | _, _ => none
theorem laws_toSpanS_D_ok {vs : List V} {W : Heap Row} {a : List GSpan} (h : laws_toSpanS_D vs W = some a) : vs = [.c (.sl 0 0)] ∧ W = [⟨.row ⟨.span, a⟩, 0, 1⟩] := by
  unfold laws_toSpanS_D at h
  split at h
  · simp at h; subst h; exact ⟨rfl, rfl⟩
  · simp at h
noncomputable def laws_toSpanS_C : Callee Row := ⟨[(false, 0)], fun _ vs W K => (laws_toSpanS_D vs W).bind fun a => (laws_toSpanS a).bind fun r => K (.c (.sl 1 0)) [⟨.row ⟨.span, a⟩, 0, 1⟩, ⟨.row ⟨.span, r⟩, 0, 2⟩]⟩
theorem laws_toSpanS_ok : CalleeOk Try.prog rowU 134 laws_toSpanS_C := by
  refine calleeP (nl := false) (m0 := 1) (T := [(206, laws_toSpan_C)]) (H := [(0, laws_toSpanS_L0_H)]) (TabOk.cons laws_toSpan_ok TabOk.nil) (by kernel_rfl) (by kernel_rfl) (fun p hp hb => by
    simp only [List.mem_cons, List.not_mem_nil, or_false] at hp
    subst hp
    exact laws_toSpanS_L0_ok hb) fun ρ vs W K r h => ?_
  obtain ⟨a, ha, h1⟩ := Option.bind_eq_some_iff.1 h
  clear h
  obtain ⟨rfl, rfl⟩ := laws_toSpanS_D_ok ha
  obtain ⟨q, hq, h2⟩ := Option.bind_eq_some_iff.1 h1
  exact ⟨_, _, h2, (laws_toSpanS_nf a _ _).trans ((laws_toSpanS_bind a _).trans (by rw [hq]; rfl))⟩
/-! loop.example/g00249/laws.toHeap -/
noncomputable def laws_toHeap_K (x0 : GHeap) {ρ : Type} (K : GHeap → Option ρ) : Option ρ :=
  Option.bind (laws_toMemory x0.mem) fun r1 =>
  Option.bind (laws_toSpanS x0.live) fun r2 =>
  Option.bind (laws_toSpanS x0.waits) fun r3 =>
  K (⟨r1, r2, r3⟩ : GHeap)
noncomputable def laws_toHeap (x0 : GHeap) : Option (GHeap) := laws_toHeap_K x0 some
theorem laws_toHeap_bind (x0 : GHeap) {ρ : Type} (K : GHeap → Option ρ) : laws_toHeap_K x0 K = (laws_toHeap x0).bind K := by
  simp only [laws_toHeap, laws_toHeap_K, Option.bind_assoc, Option.bind_some, Option.bind_none, cond_bind, sumK_bind]
noncomputable def laws_toHeap_E : Env Row := envN false 36 4 [(133, laws_toMemory_C), (134, laws_toSpanS_C)] []
theorem laws_toHeap_nf (x0 : GHeap) (ρ : Type) (K : V → Heap Row → Option ρ) : evBody rowU laws_toHeap_E (bodyC 36) [.a [.sl 0 0, .sl 1 0, .sl 2 0, .sl 3 0]] [⟨.row ⟨.word, x0.mem.words⟩, 0, 1⟩, ⟨.row ⟨.bool, x0.mem.gone⟩, 0, 1⟩, ⟨.row ⟨.span, x0.live⟩, 0, 1⟩, ⟨.row ⟨.span, x0.waits⟩, 0, 1⟩] K = laws_toHeap_K x0 (fun r => K (.a [.sl 4 0, .sl 5 0, .sl 6 0, .sl 7 0]) [⟨.row ⟨.word, x0.mem.words⟩, 0, 1⟩, ⟨.row ⟨.bool, x0.mem.gone⟩, 0, 1⟩, ⟨.row ⟨.span, x0.live⟩, 0, 1⟩, ⟨.row ⟨.span, x0.waits⟩, 0, 1⟩, ⟨.row ⟨.word, r.mem.words⟩, 0, 2⟩, ⟨.row ⟨.bool, r.mem.gone⟩, 0, 2⟩, ⟨.row ⟨.span, r.live⟩, 0, 2⟩, ⟨.row ⟨.span, r.waits⟩, 0, 2⟩]) := by kernel_rfl
def laws_toHeap_D : List V → Heap Row → Option (GHeap)
  | [.a (.sl 0 0 :: .sl 1 0 :: .sl 2 0 :: .sl 3 0 :: [])], [⟨.row ⟨.word, v1⟩, 0, 1⟩, ⟨.row ⟨.bool, v2⟩, 0, 1⟩, ⟨.row ⟨.span, v3⟩, 0, 1⟩, ⟨.row ⟨.span, v4⟩, 0, 1⟩] => some (⟨⟨v1, v2⟩, v3, v4⟩)
  | _, _ => none
theorem laws_toHeap_D_ok {vs : List V} {W : Heap Row} {a : GHeap} (h : laws_toHeap_D vs W = some a) : vs = [.a [.sl 0 0, .sl 1 0, .sl 2 0, .sl 3 0]] ∧ W = [⟨.row ⟨.word, (a).mem.words⟩, 0, 1⟩, ⟨.row ⟨.bool, (a).mem.gone⟩, 0, 1⟩, ⟨.row ⟨.span, (a).live⟩, 0, 1⟩, ⟨.row ⟨.span, (a).waits⟩, 0, 1⟩] := by
  unfold laws_toHeap_D at h
  split at h
  · simp at h; subst h; exact ⟨rfl, rfl⟩
  · simp at h
noncomputable def laws_toHeap_C : Callee Row := ⟨[(false, 0), (false, 0), (false, 0), (false, 0)], fun _ vs W K => (laws_toHeap_D vs W).bind fun a => (laws_toHeap a).bind fun r => K (.a [.sl 4 0, .sl 5 0, .sl 6 0, .sl 7 0]) [⟨.row ⟨.word, (a).mem.words⟩, 0, 1⟩, ⟨.row ⟨.bool, (a).mem.gone⟩, 0, 1⟩, ⟨.row ⟨.span, (a).live⟩, 0, 1⟩, ⟨.row ⟨.span, (a).waits⟩, 0, 1⟩, ⟨.row ⟨.word, r.mem.words⟩, 0, 2⟩, ⟨.row ⟨.bool, r.mem.gone⟩, 0, 2⟩, ⟨.row ⟨.span, r.live⟩, 0, 2⟩, ⟨.row ⟨.span, r.waits⟩, 0, 2⟩]⟩
theorem laws_toHeap_ok : CalleeOk Try.prog rowU 36 laws_toHeap_C := by
  refine calleeP (nl := false) (m0 := 4) (T := [(133, laws_toMemory_C), (134, laws_toSpanS_C)]) (H := []) (TabOk.cons laws_toMemory_ok (TabOk.cons laws_toSpanS_ok TabOk.nil)) (by kernel_rfl) (by kernel_rfl) (fun p hp => nomatch hp) fun ρ vs W K r h => ?_
  obtain ⟨a, ha, h1⟩ := Option.bind_eq_some_iff.1 h
  clear h
  obtain ⟨rfl, rfl⟩ := laws_toHeap_D_ok ha
  obtain ⟨q, hq, h2⟩ := Option.bind_eq_some_iff.1 h1
  exact ⟨_, _, h2, (laws_toHeap_nf a _ _).trans ((laws_toHeap_bind a _).trans (by rw [hq]; rfl))⟩
/-! loop.example/g00249/spec.l1Max -/
def spec_l1Max_K (x0 : Int) (x1 : Int) {ρ : Type} (K : Int → Option ρ) : Option ρ :=
  cond (decide (x0 > x1))
    (K x0)
    (K x1)
def spec_l1Max (x0 : Int) (x1 : Int) : Option (Int) := spec_l1Max_K x0 x1 some
theorem spec_l1Max_bind (x0 : Int) (x1 : Int) {ρ : Type} (K : Int → Option ρ) : spec_l1Max_K x0 x1 K = (spec_l1Max x0 x1).bind K := by
  simp only [spec_l1Max, spec_l1Max_K, Option.bind_assoc, Option.bind_some, Option.bind_none, cond_bind, sumK_bind]
noncomputable def spec_l1Max_E : Env Row := envN false 201 0 [] []
theorem spec_l1Max_nf (x0 : Int) (x1 : Int) (ρ : Type) (K : V → Heap Row → Option ρ) : evBody rowU spec_l1Max_E (bodyC 201) [.c (.int .i64 x0), .c (.int .i64 x1)] [] K = spec_l1Max_K x0 x1 (fun r => K (.c (.int .i64 r)) []) := by kernel_rfl
def spec_l1Max_D : List V → Heap Row → Option (Int × Int)
  | [.c (.int .i64 v1), .c (.int .i64 v2)], [] => some (v1, v2)
  | _, _ => none
theorem spec_l1Max_D_ok {vs : List V} {W : Heap Row} {a : Int × Int} (h : spec_l1Max_D vs W = some a) : vs = [.c (.int .i64 (a.1)), .c (.int .i64 (a.2))] ∧ W = [] := by
  unfold spec_l1Max_D at h
  split at h
  · simp at h; subst h; exact ⟨rfl, rfl⟩
  · simp at h
def spec_l1Max_C : Callee Row := ⟨[], fun _ vs W K => (spec_l1Max_D vs W).bind fun a => (spec_l1Max a.1 a.2).bind fun r => K (.c (.int .i64 r)) []⟩
theorem spec_l1Max_ok : CalleeOk Try.prog rowU 201 spec_l1Max_C := by
  refine calleeP (nl := false) (m0 := 0) (T := []) (H := []) TabOk.nil (by kernel_rfl) (by kernel_rfl) (fun p hp => nomatch hp) fun ρ vs W K r h => ?_
  obtain ⟨a, ha, h1⟩ := Option.bind_eq_some_iff.1 h
  clear h
  obtain ⟨rfl, rfl⟩ := spec_l1Max_D_ok ha
  obtain ⟨q, hq, h2⟩ := Option.bind_eq_some_iff.1 h1
  exact ⟨_, _, h2, (spec_l1Max_nf (a.1) (a.2) _ _).trans ((spec_l1Max_bind (a.1) (a.2) _).trans (by rw [hq]; rfl))⟩
/-! loop.example/g00249/spec.l23Owners -/
noncomputable def spec_l23Owners_L2_K (l0 : List GWord) (l1 : List Bool) (l2 : List GSpan) (l3 : List GSpan) (l5 : List GSpan) (n6 : Int) (l4 : List Int) (n7 : Int) {ρ : Type} (A : List Int × Int → Option ρ) (X : List Int → Option ρ) (R : Unit → Option ρ) : Option ρ :=
  cond ((decide (n7 < 24)) == true)
    (cond (decide (0 ≤ n6)) (cond (decide (n6 < (((l5.length : Nat) : Int)))) (cond (decide (0 ≤ n6)) (cond (decide (n6 < (((l5.length : Nat) : Int)))) (cond (decide ((w64 (n7 - (List.getD l5 (n6.toNat) (default)).at_)) < (List.getD l5 (n6.toNat) (default)).len))
      (cond (decide (0 ≤ n7)) (cond (decide (n7 < (((l4.length : Nat) : Int)))) (cond (decide (0 ≤ n7)) (cond (decide (n7 < (((l4.length : Nat) : Int)))) (A (List.set l4 (n7.toNat) (w64 ((List.getD l4 (n7.toNat) 0) + 1)), w64 (n7 + 1))) none) none) none) none)
      (X l4)) none) none) none) none)
    (X l4)
noncomputable def spec_l23Owners_L2_step (l0 : List GWord) (l1 : List Bool) (l2 : List GSpan) (l3 : List GSpan) (l5 : List GSpan) (n6 : Int) (s : List Int × Int) : Option (Rnd (List Int × Int) (List Int) (Unit)) := spec_l23Owners_L2_K l0 l1 l2 l3 l5 n6 (s.1) (s.2) (fun s => some (.again s)) (fun t => some (.exit t)) (fun k => some (.ret k))
theorem spec_l23Owners_L2_bind (l0 : List GWord) (l1 : List Bool) (l2 : List GSpan) (l3 : List GSpan) (l5 : List GSpan) (n6 : Int) (s : List Int × Int) {ρ : Type} (A : List Int × Int → Option ρ) (X : List Int → Option ρ) (R : Unit → Option ρ) : spec_l23Owners_L2_K l0 l1 l2 l3 l5 n6 (s.1) (s.2) A X R = (spec_l23Owners_L2_step l0 l1 l2 l3 l5 n6 s).bind (rndE A X R) := by
  simp only [spec_l23Owners_L2_step, spec_l23Owners_L2_K, Option.bind_assoc, Option.bind_some, Option.bind_none, cond_bind, sumK_bind, rndE_again, rndE_exit, rndE_ret]
def spec_l23Owners_L2_st (p : List GWord × List Bool × List GSpan × List GSpan × List GSpan × Int) (s : List Int × Int) : List V × Heap Row := ([.c (.sl 4 0), .c (.sl 5 0), .c (.int .i64 (p.2.2.2.2.2)), .c (.int .i64 (s.2))], [⟨.row ⟨.word, p.1⟩, 0, 1⟩, ⟨.row ⟨.bool, p.2.1⟩, 0, 1⟩, ⟨.row ⟨.span, p.2.2.1⟩, 0, 1⟩, ⟨.row ⟨.span, p.2.2.2.1⟩, 0, 1⟩, ⟨.row ⟨.int, s.1⟩, 0, 2⟩, ⟨.row ⟨.span, p.2.2.2.2.1⟩, 0, 2⟩])
def spec_l23Owners_L2_so (p : List GWord × List Bool × List GSpan × List GSpan × List GSpan × Int) (t : List Int) : List V × Heap Row := ([.c (.sl 4 0), .c (.sl 5 0), .c (.int .i64 (p.2.2.2.2.2))], [⟨.row ⟨.word, p.1⟩, 0, 1⟩, ⟨.row ⟨.bool, p.2.1⟩, 0, 1⟩, ⟨.row ⟨.span, p.2.2.1⟩, 0, 1⟩, ⟨.row ⟨.span, p.2.2.2.1⟩, 0, 1⟩, ⟨.row ⟨.int, t⟩, 0, 2⟩, ⟨.row ⟨.span, p.2.2.2.2.1⟩, 0, 2⟩])
def spec_l23Owners_L2_D : List V → Heap Row → Option ((List GWord × List Bool × List GSpan × List GSpan × List GSpan × Int) × (List Int × Int))
  | [.c (.sl 4 0), .c (.sl 5 0), .c (.int .i64 v1), .c (.int .i64 v2)], [⟨.row ⟨.word, v3⟩, 0, 1⟩, ⟨.row ⟨.bool, v4⟩, 0, 1⟩, ⟨.row ⟨.span, v5⟩, 0, 1⟩, ⟨.row ⟨.span, v6⟩, 0, 1⟩, ⟨.row ⟨.int, v7⟩, 0, 2⟩, ⟨.row ⟨.span, v8⟩, 0, 2⟩] => some ((v3, v4, v5, v6, v8, v1), (v7, v2))
  | _, _ => none
theorem spec_l23Owners_L2_D_ok (vs : List V) (L : Heap Row) (p : List GWord × List Bool × List GSpan × List GSpan × List GSpan × Int) (s : List Int × Int) (h : spec_l23Owners_L2_D vs L = some (p, s)) : spec_l23Owners_L2_st p s = (vs, L) := by
  unfold spec_l23Owners_L2_D at h
  split at h
  · simp at h; obtain ⟨rfl, rfl⟩ := h; rfl
  · simp at h
noncomputable def spec_l23Owners_L2_H : LoopH Row := loopX [3, 4, 5, 6] [3, 4, 5] spec_l23Owners_L2_D (fun p => spec_l23Owners_L2_step (p.1) (p.2.1) (p.2.2.1) (p.2.2.2.1) (p.2.2.2.2.1) (p.2.2.2.2.2)) spec_l23Owners_L2_so
noncomputable def spec_l23Owners_L0_K (l0 : List GWord) (l1 : List Bool) (l2 : List GSpan) (l3 : List GSpan) (l5 : List GSpan) (l4 : List Int) (n6 : Int) {ρ : Type} (A : List Int × Int → Option ρ) (X : List Int → Option ρ) (R : Unit → Option ρ) : Option ρ :=
  cond (decide (n6 < (((l5.length : Nat) : Int))))
    (cond (decide (0 ≤ n6)) (cond (decide (n6 < (((l5.length : Nat) : Int)))) (Option.bind (spec_l1Max (List.getD l5 (n6.toNat) (default)).at_ 0) fun r1 =>
    Option.bind (runX (spec_l23Owners_L2_step l0 l1 l2 l3 l5 n6) (l4, r1)) fun t2 =>
    A (t2, w64 (n6 + 1))) none) none)
    (X l4)
noncomputable def spec_l23Owners_L0_step (l0 : List GWord) (l1 : List Bool) (l2 : List GSpan) (l3 : List GSpan) (l5 : List GSpan) (s : List Int × Int) : Option (Rnd (List Int × Int) (List Int) (Unit)) := spec_l23Owners_L0_K l0 l1 l2 l3 l5 (s.1) (s.2) (fun s => some (.again s)) (fun t => some (.exit t)) (fun k => some (.ret k))
theorem spec_l23Owners_L0_bind (l0 : List GWord) (l1 : List Bool) (l2 : List GSpan) (l3 : List GSpan) (l5 : List GSpan) (s : List Int × Int) {ρ : Type} (A : List Int × Int → Option ρ) (X : List Int → Option ρ) (R : Unit → Option ρ) : spec_l23Owners_L0_K l0 l1 l2 l3 l5 (s.1) (s.2) A X R = (spec_l23Owners_L0_step l0 l1 l2 l3 l5 s).bind (rndE A X R) := by
  simp only [spec_l23Owners_L0_step, spec_l23Owners_L0_K, Option.bind_assoc, Option.bind_some, Option.bind_none, cond_bind, sumK_bind, rndE_again, rndE_exit, rndE_ret]
def spec_l23Owners_L0_st (p : List GWord × List Bool × List GSpan × List GSpan × List GSpan) (s : List Int × Int) : List V × Heap Row := ([.c (.sl 4 0), .c (.sl 5 0), .c (.int .i64 (s.2))], [⟨.row ⟨.word, p.1⟩, 0, 1⟩, ⟨.row ⟨.bool, p.2.1⟩, 0, 1⟩, ⟨.row ⟨.span, p.2.2.1⟩, 0, 1⟩, ⟨.row ⟨.span, p.2.2.2.1⟩, 0, 1⟩, ⟨.row ⟨.int, s.1⟩, 0, 2⟩, ⟨.row ⟨.span, p.2.2.2.2⟩, 0, 2⟩])
def spec_l23Owners_L0_so (p : List GWord × List Bool × List GSpan × List GSpan × List GSpan) (t : List Int) : List V × Heap Row := ([.c (.sl 4 0)], [⟨.row ⟨.word, p.1⟩, 0, 1⟩, ⟨.row ⟨.bool, p.2.1⟩, 0, 1⟩, ⟨.row ⟨.span, p.2.2.1⟩, 0, 1⟩, ⟨.row ⟨.span, p.2.2.2.1⟩, 0, 1⟩, ⟨.row ⟨.int, t⟩, 0, 2⟩])
def spec_l23Owners_L0_D : List V → Heap Row → Option ((List GWord × List Bool × List GSpan × List GSpan × List GSpan) × (List Int × Int))
  | [.c (.sl 4 0), .c (.sl 5 0), .c (.int .i64 v1)], [⟨.row ⟨.word, v2⟩, 0, 1⟩, ⟨.row ⟨.bool, v3⟩, 0, 1⟩, ⟨.row ⟨.span, v4⟩, 0, 1⟩, ⟨.row ⟨.span, v5⟩, 0, 1⟩, ⟨.row ⟨.int, v6⟩, 0, 2⟩, ⟨.row ⟨.span, v7⟩, 0, 2⟩] => some ((v2, v3, v4, v5, v7), (v6, v1))
  | _, _ => none
theorem spec_l23Owners_L0_D_ok (vs : List V) (L : Heap Row) (p : List GWord × List Bool × List GSpan × List GSpan × List GSpan) (s : List Int × Int) (h : spec_l23Owners_L0_D vs L = some (p, s)) : spec_l23Owners_L0_st p s = (vs, L) := by
  unfold spec_l23Owners_L0_D at h
  split at h
  · simp at h; obtain ⟨rfl, rfl⟩ := h; rfl
  · simp at h
noncomputable def spec_l23Owners_L0_H : LoopH Row := loopX [3, 4, 5] [3] spec_l23Owners_L0_D (fun p => spec_l23Owners_L0_step (p.1) (p.2.1) (p.2.2.1) (p.2.2.2.1) (p.2.2.2.2)) spec_l23Owners_L0_so
theorem spec_l23Owners_L2_nf (p : List GWord × List Bool × List GSpan × List GSpan × List GSpan × Int) (s : List Int × Int) (ρ : Type) (again Kx Kr : List V → Heap Row → Option ρ) : evRound rowU (envOf 131 4 [(201, spec_l1Max_C)] [(2, spec_l23Owners_L2_H), (0, spec_l23Owners_L0_H)]) 2 spec_l23Owners_L2_H (loopC 131 2) again (spec_l23Owners_L2_st p s).1 (spec_l23Owners_L2_st p s).2 Kx Kr = spec_l23Owners_L2_K (p.1) (p.2.1) (p.2.2.1) (p.2.2.2.1) (p.2.2.2.2.1) (p.2.2.2.2.2) (s.1) (s.2) (fun s => again (spec_l23Owners_L2_st p s).1 (spec_l23Owners_L2_st p s).2) (fun t => Kx (spec_l23Owners_L2_so p t).1 (spec_l23Owners_L2_so p t).2) (fun _ => none) := by kernel_rfl
theorem spec_l23Owners_L2_ok (hb : LoopsOk Try.prog rowU (envOf 131 4 [(201, spec_l1Max_C)] [(2, spec_l23Owners_L2_H), (0, spec_l23Owners_L0_H)]) (loopAt (codeP 131) 2)) : LoopOk Try.prog rowU (envOf 131 4 [(201, spec_l1Max_C)] [(2, spec_l23Owners_L2_H), (0, spec_l23Owners_L0_H)]) 2 (loopAt (codeP 131) 2) spec_l23Owners_L2_H :=
  loopX_ok tagOk mixed envNl (envT (TabOk.cons spec_l1Max_ok TabOk.nil)) hb spec_l23Owners_L2_st spec_l23Owners_L2_D_ok fun p s ρ A Kx Kr => (spec_l23Owners_L2_nf p s ρ A Kx Kr).trans (spec_l23Owners_L2_bind (p.1) (p.2.1) (p.2.2.1) (p.2.2.2.1) (p.2.2.2.2.1) (p.2.2.2.2.2) s _ _ _)
theorem spec_l23Owners_L0_nf (p : List GWord × List Bool × List GSpan × List GSpan × List GSpan) (s : List Int × Int) (ρ : Type) (again Kx Kr : List V → Heap Row → Option ρ) : evRound rowU (envOf 131 4 [(201, spec_l1Max_C)] [(2, spec_l23Owners_L2_H), (0, spec_l23Owners_L0_H)]) 0 spec_l23Owners_L0_H (loopC 131 0) again (spec_l23Owners_L0_st p s).1 (spec_l23Owners_L0_st p s).2 Kx Kr = spec_l23Owners_L0_K (p.1) (p.2.1) (p.2.2.1) (p.2.2.2.1) (p.2.2.2.2) (s.1) (s.2) (fun s => again (spec_l23Owners_L0_st p s).1 (spec_l23Owners_L0_st p s).2) (fun t => Kx (spec_l23Owners_L0_so p t).1 (spec_l23Owners_L0_so p t).2) (fun _ => none) := by kernel_rfl
theorem spec_l23Owners_L0_ok (hb : LoopsOk Try.prog rowU (envOf 131 4 [(201, spec_l1Max_C)] [(2, spec_l23Owners_L2_H), (0, spec_l23Owners_L0_H)]) (loopAt (codeP 131) 0)) : LoopOk Try.prog rowU (envOf 131 4 [(201, spec_l1Max_C)] [(2, spec_l23Owners_L2_H), (0, spec_l23Owners_L0_H)]) 0 (loopAt (codeP 131) 0) spec_l23Owners_L0_H :=
  loopX_ok tagOk mixed envNl (envT (TabOk.cons spec_l1Max_ok TabOk.nil)) hb spec_l23Owners_L0_st spec_l23Owners_L0_D_ok fun p s ρ A Kx Kr => (spec_l23Owners_L0_nf p s ρ A Kx Kr).trans (spec_l23Owners_L0_bind (p.1) (p.2.1) (p.2.2.1) (p.2.2.2.1) (p.2.2.2.2) s _ _ _)
noncomputable def spec_l23Owners_K (x0 : GHeap) {ρ : Type} (K : List Int → Option ρ) : Option ρ :=
  cond (decide (((0 + (x0.live.length)) * 16) ≤ 140737488355328)) (cond (decide ((((([] ++ x0.live).length) + (x0.waits.length)) * 16) ≤ 140737488355328)) (Option.bind (runX (spec_l23Owners_L0_step x0.mem.words x0.mem.gone x0.live x0.waits (([] ++ x0.live) ++ x0.waits)) (List.replicate 24 0, 0)) fun t3 =>
  K t3) none) none
noncomputable def spec_l23Owners (x0 : GHeap) : Option (List Int) := spec_l23Owners_K x0 some
theorem spec_l23Owners_bind (x0 : GHeap) {ρ : Type} (K : List Int → Option ρ) : spec_l23Owners_K x0 K = (spec_l23Owners x0).bind K := by
  simp only [spec_l23Owners, spec_l23Owners_K, Option.bind_assoc, Option.bind_some, Option.bind_none, cond_bind, sumK_bind]
noncomputable def spec_l23Owners_E : Env Row := envN false 131 4 [(201, spec_l1Max_C)] [(2, spec_l23Owners_L2_H), (0, spec_l23Owners_L0_H)]
theorem spec_l23Owners_nf (x0 : GHeap) (ρ : Type) (K : V → Heap Row → Option ρ) : evBody rowU spec_l23Owners_E (bodyC 131) [.a [.sl 0 0, .sl 1 0, .sl 2 0, .sl 3 0]] [⟨.row ⟨.word, x0.mem.words⟩, 0, 1⟩, ⟨.row ⟨.bool, x0.mem.gone⟩, 0, 1⟩, ⟨.row ⟨.span, x0.live⟩, 0, 1⟩, ⟨.row ⟨.span, x0.waits⟩, 0, 1⟩] K = spec_l23Owners_K x0 (fun r => K (.c (.sl 4 0)) [⟨.row ⟨.word, x0.mem.words⟩, 0, 1⟩, ⟨.row ⟨.bool, x0.mem.gone⟩, 0, 1⟩, ⟨.row ⟨.span, x0.live⟩, 0, 1⟩, ⟨.row ⟨.span, x0.waits⟩, 0, 1⟩, ⟨.row ⟨.int, r⟩, 0, 2⟩]) := by kernel_rfl
def spec_l23Owners_D : List V → Heap Row → Option (GHeap)
  | [.a (.sl 0 0 :: .sl 1 0 :: .sl 2 0 :: .sl 3 0 :: [])], [⟨.row ⟨.word, v1⟩, 0, 1⟩, ⟨.row ⟨.bool, v2⟩, 0, 1⟩, ⟨.row ⟨.span, v3⟩, 0, 1⟩, ⟨.row ⟨.span, v4⟩, 0, 1⟩] => some (⟨⟨v1, v2⟩, v3, v4⟩)
  | _, _ => none
theorem spec_l23Owners_D_ok {vs : List V} {W : Heap Row} {a : GHeap} (h : spec_l23Owners_D vs W = some a) : vs = [.a [.sl 0 0, .sl 1 0, .sl 2 0, .sl 3 0]] ∧ W = [⟨.row ⟨.word, (a).mem.words⟩, 0, 1⟩, ⟨.row ⟨.bool, (a).mem.gone⟩, 0, 1⟩, ⟨.row ⟨.span, (a).live⟩, 0, 1⟩, ⟨.row ⟨.span, (a).waits⟩, 0, 1⟩] := by
  unfold spec_l23Owners_D at h
  split at h
  · simp at h; subst h; exact ⟨rfl, rfl⟩
  · simp at h
noncomputable def spec_l23Owners_C : Callee Row := ⟨[(false, 0), (false, 0), (false, 0), (false, 0)], fun _ vs W K => (spec_l23Owners_D vs W).bind fun a => (spec_l23Owners a).bind fun r => K (.c (.sl 4 0)) [⟨.row ⟨.word, (a).mem.words⟩, 0, 1⟩, ⟨.row ⟨.bool, (a).mem.gone⟩, 0, 1⟩, ⟨.row ⟨.span, (a).live⟩, 0, 1⟩, ⟨.row ⟨.span, (a).waits⟩, 0, 1⟩, ⟨.row ⟨.int, r⟩, 0, 2⟩]⟩
theorem spec_l23Owners_ok : CalleeOk Try.prog rowU 131 spec_l23Owners_C := by
  refine calleeP (nl := false) (m0 := 4) (T := [(201, spec_l1Max_C)]) (H := [(2, spec_l23Owners_L2_H), (0, spec_l23Owners_L0_H)]) (TabOk.cons spec_l1Max_ok TabOk.nil) (by kernel_rfl) (by kernel_rfl) (fun p hp hb => by
    simp only [List.mem_cons, List.not_mem_nil, or_false] at hp
    rcases hp with rfl | rfl
    · exact spec_l23Owners_L2_ok hb
    · exact spec_l23Owners_L0_ok hb) fun ρ vs W K r h => ?_
  obtain ⟨a, ha, h1⟩ := Option.bind_eq_some_iff.1 h
  clear h
  obtain ⟨rfl, rfl⟩ := spec_l23Owners_D_ok ha
  obtain ⟨q, hq, h2⟩ := Option.bind_eq_some_iff.1 h1
  exact ⟨_, _, h2, (spec_l23Owners_nf a _ _).trans ((spec_l23Owners_bind a _).trans (by rw [hq]; rfl))⟩
/-! loop.example/g00249/spec.l1In -/
def spec_l1In_K (x0 : Int) (x1 : Int) (x2 : Int) {ρ : Type} (K : Bool → Option ρ) : Option ρ :=
  cond ((decide (x0 ≥ x1)) == true)
    (K (decide (x0 ≤ x2)))
    (K false)
def spec_l1In (x0 : Int) (x1 : Int) (x2 : Int) : Option (Bool) := spec_l1In_K x0 x1 x2 some
theorem spec_l1In_bind (x0 : Int) (x1 : Int) (x2 : Int) {ρ : Type} (K : Bool → Option ρ) : spec_l1In_K x0 x1 x2 K = (spec_l1In x0 x1 x2).bind K := by
  simp only [spec_l1In, spec_l1In_K, Option.bind_assoc, Option.bind_some, Option.bind_none, cond_bind, sumK_bind]
noncomputable def spec_l1In_E : Env Row := envN false 160 0 [] []
theorem spec_l1In_nf (x0 : Int) (x1 : Int) (x2 : Int) (ρ : Type) (K : V → Heap Row → Option ρ) : evBody rowU spec_l1In_E (bodyC 160) [.c (.int .i64 x0), .c (.int .i64 x1), .c (.int .i64 x2)] [] K = spec_l1In_K x0 x1 x2 (fun r => K (.c (.bool r)) []) := by kernel_rfl
def spec_l1In_D : List V → Heap Row → Option (Int × Int × Int)
  | [.c (.int .i64 v1), .c (.int .i64 v2), .c (.int .i64 v3)], [] => some (v1, v2, v3)
  | _, _ => none
theorem spec_l1In_D_ok {vs : List V} {W : Heap Row} {a : Int × Int × Int} (h : spec_l1In_D vs W = some a) : vs = [.c (.int .i64 (a.1)), .c (.int .i64 (a.2.1)), .c (.int .i64 (a.2.2))] ∧ W = [] := by
  unfold spec_l1In_D at h
  split at h
  · simp at h; subst h; exact ⟨rfl, rfl⟩
  · simp at h
def spec_l1In_C : Callee Row := ⟨[], fun _ vs W K => (spec_l1In_D vs W).bind fun a => (spec_l1In a.1 a.2.1 a.2.2).bind fun r => K (.c (.bool r)) []⟩
theorem spec_l1In_ok : CalleeOk Try.prog rowU 160 spec_l1In_C := by
  refine calleeP (nl := false) (m0 := 0) (T := []) (H := []) TabOk.nil (by kernel_rfl) (by kernel_rfl) (fun p hp => nomatch hp) fun ρ vs W K r h => ?_
  obtain ⟨a, ha, h1⟩ := Option.bind_eq_some_iff.1 h
  clear h
  obtain ⟨rfl, rfl⟩ := spec_l1In_D_ok ha
  obtain ⟨q, hq, h2⟩ := Option.bind_eq_some_iff.1 h1
  exact ⟨_, _, h2, (spec_l1In_nf (a.1) (a.2.1) (a.2.2) _ _).trans ((spec_l1In_bind (a.1) (a.2.1) (a.2.2) _).trans (by rw [hq]; rfl))⟩
/-! loop.example/g00249/spec.BoundsOk -/
def spec_BoundsOk_K (x0 : Int) (x1 : Int) {ρ : Type} (K : Bool → Option ρ) : Option ρ :=
  Option.bind (spec_l1In x0 0 4096) fun r1 =>
  cond (r1 == true)
    (Option.bind (spec_l1In x1 0 4096) fun r2 =>
    cond (r2 == true)
      (K (decide (x0 ≤ x1)))
      (K false))
    (K false)
def spec_BoundsOk (x0 : Int) (x1 : Int) : Option (Bool) := spec_BoundsOk_K x0 x1 some
theorem spec_BoundsOk_bind (x0 : Int) (x1 : Int) {ρ : Type} (K : Bool → Option ρ) : spec_BoundsOk_K x0 x1 K = (spec_BoundsOk x0 x1).bind K := by
  simp only [spec_BoundsOk, spec_BoundsOk_K, Option.bind_assoc, Option.bind_some, Option.bind_none, cond_bind, sumK_bind]
noncomputable def spec_BoundsOk_E : Env Row := envN false 254 0 [(160, spec_l1In_C)] []
theorem spec_BoundsOk_nf (x0 : Int) (x1 : Int) (ρ : Type) (K : V → Heap Row → Option ρ) : evBody rowU spec_BoundsOk_E (bodyC 254) [.c (.int .i64 x0), .c (.int .i64 x1)] [] K = spec_BoundsOk_K x0 x1 (fun r => K (.c (.bool r)) []) := by kernel_rfl
def spec_BoundsOk_D : List V → Heap Row → Option (Int × Int)
  | [.c (.int .i64 v1), .c (.int .i64 v2)], [] => some (v1, v2)
  | _, _ => none
theorem spec_BoundsOk_D_ok {vs : List V} {W : Heap Row} {a : Int × Int} (h : spec_BoundsOk_D vs W = some a) : vs = [.c (.int .i64 (a.1)), .c (.int .i64 (a.2))] ∧ W = [] := by
  unfold spec_BoundsOk_D at h
  split at h
  · simp at h; subst h; exact ⟨rfl, rfl⟩
  · simp at h
def spec_BoundsOk_C : Callee Row := ⟨[], fun _ vs W K => (spec_BoundsOk_D vs W).bind fun a => (spec_BoundsOk a.1 a.2).bind fun r => K (.c (.bool r)) []⟩
theorem spec_BoundsOk_ok : CalleeOk Try.prog rowU 254 spec_BoundsOk_C := by
  refine calleeP (nl := false) (m0 := 0) (T := [(160, spec_l1In_C)]) (H := []) (TabOk.cons spec_l1In_ok TabOk.nil) (by kernel_rfl) (by kernel_rfl) (fun p hp => nomatch hp) fun ρ vs W K r h => ?_
  obtain ⟨a, ha, h1⟩ := Option.bind_eq_some_iff.1 h
  clear h
  obtain ⟨rfl, rfl⟩ := spec_BoundsOk_D_ok ha
  obtain ⟨q, hq, h2⟩ := Option.bind_eq_some_iff.1 h1
  exact ⟨_, _, h2, (spec_BoundsOk_nf (a.1) (a.2) _ _).trans ((spec_BoundsOk_bind (a.1) (a.2) _).trans (by rw [hq]; rfl))⟩
/-! loop.example/g00249/spec.Pack -/
noncomputable def spec_Pack_L0_K (n3 : Int) (n4 : Int) (n5 : Int) {ρ : Type} (A : Int → Option ρ) (X : Unit → Option ρ) (R : Int × Int × Int → Option ρ) : Option ρ :=
  cond (decide (n5 ≤ 6))
    (cond (decide (0 ≤ n5)) (cond (decide (0 ≤ n5)) (cond (decide (0 ≤ n5)) (cond (decide (0 ≤ n5)) (cond ((decide ((Int.fdiv n3 (pw2 64 n5)) ≤ 63)) == true)
      (cond (decide ((Int.fdiv (w64 ((w64 ((w64 (n4 - (w64 ((Int.fdiv n3 (pw2 64 n5)) * (pw2 64 n5))))) + (w64 (1 * (pw2 64 n5))))) - 1)) (pw2 64 n5)) ≤ 63))
        (R (n5, Int.fdiv n3 (pw2 64 n5), Int.fdiv (w64 ((w64 ((w64 (n4 - (w64 ((Int.fdiv n3 (pw2 64 n5)) * (pw2 64 n5))))) + (w64 (1 * (pw2 64 n5))))) - 1)) (pw2 64 n5)))
        (A (w64 (n5 + 1))))
      (A (w64 (n5 + 1)))) none) none) none) none)
    (X ())
noncomputable def spec_Pack_L0_step (n3 : Int) (n4 : Int) (s : Int) : Option (Rnd (Int) (Unit) (Int × Int × Int)) := spec_Pack_L0_K n3 n4 s (fun s => some (.again s)) (fun t => some (.exit t)) (fun k => some (.ret k))
theorem spec_Pack_L0_bind (n3 : Int) (n4 : Int) (s : Int) {ρ : Type} (A : Int → Option ρ) (X : Unit → Option ρ) (R : Int × Int × Int → Option ρ) : spec_Pack_L0_K n3 n4 s A X R = (spec_Pack_L0_step n3 n4 s).bind (rndE A X R) := by
  simp only [spec_Pack_L0_step, spec_Pack_L0_K, Option.bind_assoc, Option.bind_some, Option.bind_none, cond_bind, sumK_bind, rndE_again, rndE_exit, rndE_ret]
def spec_Pack_L0_st (p : Int × Int) (s : Int) : List V × Heap Row := ([.c (.int .i64 (p.1)), .c (.int .i64 (p.2)), .c (.ptr 0 0), .c (.int .i64 (s))], [⟨.box [.int .i64 0, .int .i64 0, .int .i64 0], 0, 2⟩])
def spec_Pack_L0_so (p : Int × Int) (t : Unit) : List V × Heap Row := ([.c (.ptr 0 0)], [⟨.box [.int .i64 0, .int .i64 0, .int .i64 0], 0, 2⟩])
def spec_Pack_L0_sr (p : Int × Int) (k : Int × Int × Int) : List V × Heap Row := ([.c (.ptr 0 0), .c (.bool true)], [⟨.box [.int .i64 (k).1, .int .i64 (k).2.1, .int .i64 (k).2.2], 0, 2⟩])
def spec_Pack_L0_D : List V → Heap Row → Option ((Int × Int) × (Int))
  | [.c (.int .i64 v1), .c (.int .i64 v2), .c (.ptr 0 0), .c (.int .i64 v3)], [⟨.box [.int .i64 0, .int .i64 0, .int .i64 0], 0, 2⟩] => some ((v1, v2), (v3))
  | _, _ => none
theorem spec_Pack_L0_D_ok (vs : List V) (L : Heap Row) (p : Int × Int) (s : Int) (h : spec_Pack_L0_D vs L = some (p, s)) : spec_Pack_L0_st p s = (vs, L) := by
  unfold spec_Pack_L0_D at h
  split at h
  · simp at h; obtain ⟨rfl, rfl⟩ := h; rfl
  · simp at h
noncomputable def spec_Pack_L0_H : LoopH Row := loopR [0, 1, 4, 6] [4] spec_Pack_L0_D (fun p => spec_Pack_L0_step (p.1) (p.2)) spec_Pack_L0_so spec_Pack_L0_sr
theorem spec_Pack_L0_nf (p : Int × Int) (s : Int) (ρ : Type) (again Kx Kr : List V → Heap Row → Option ρ) : evRound rowU (envOf 292 0 [(254, spec_BoundsOk_C)] [(0, spec_Pack_L0_H)]) 0 spec_Pack_L0_H (loopC 292 0) again (spec_Pack_L0_st p s).1 (spec_Pack_L0_st p s).2 Kx Kr = spec_Pack_L0_K (p.1) (p.2) s (fun s => again (spec_Pack_L0_st p s).1 (spec_Pack_L0_st p s).2) (fun t => Kx (spec_Pack_L0_so p t).1 (spec_Pack_L0_so p t).2) (fun k => Kr (spec_Pack_L0_sr p k).1 (spec_Pack_L0_sr p k).2) := by kernel_rfl
theorem spec_Pack_L0_ok (hb : LoopsOk Try.prog rowU (envOf 292 0 [(254, spec_BoundsOk_C)] [(0, spec_Pack_L0_H)]) (loopAt (codeP 292) 0)) : LoopOk Try.prog rowU (envOf 292 0 [(254, spec_BoundsOk_C)] [(0, spec_Pack_L0_H)]) 0 (loopAt (codeP 292) 0) spec_Pack_L0_H :=
  loopR_ok tagOk mixed envNl (envT (TabOk.cons spec_BoundsOk_ok TabOk.nil)) hb spec_Pack_L0_st spec_Pack_L0_D_ok fun p s ρ A Kx Kr => (spec_Pack_L0_nf p s ρ A Kx Kr).trans (spec_Pack_L0_bind (p.1) (p.2) s _ _ _)
noncomputable def spec_Pack_K (x0 : Int) (x1 : Int) {ρ : Type} (K : GPacked × Bool → Option ρ) : Option ρ :=
  Option.bind (spec_BoundsOk x0 x1) fun r1 =>
  cond (!r1)
    (K ((⟨0, 0, 0⟩ : GPacked), false))
    (Option.bind (runL (spec_Pack_L0_step x0 x1) 0) fun ot2 => sumK ot2
      (fun t2 => K ((⟨0, 0, 0⟩ : GPacked), false))
      (fun k3 => K ((⟨k3.1, k3.2.1, k3.2.2⟩ : GPacked), true)))
noncomputable def spec_Pack (x0 : Int) (x1 : Int) : Option (GPacked × Bool) := spec_Pack_K x0 x1 some
theorem spec_Pack_bind (x0 : Int) (x1 : Int) {ρ : Type} (K : GPacked × Bool → Option ρ) : spec_Pack_K x0 x1 K = (spec_Pack x0 x1).bind K := by
  simp only [spec_Pack, spec_Pack_K, Option.bind_assoc, Option.bind_some, Option.bind_none, cond_bind, sumK_bind]
noncomputable def spec_Pack_E : Env Row := envN false 292 0 [(254, spec_BoundsOk_C)] [(0, spec_Pack_L0_H)]
theorem spec_Pack_nf (x0 : Int) (x1 : Int) (ρ : Type) (K : V → Heap Row → Option ρ) : evBody rowU spec_Pack_E (bodyC 292) [.c (.int .i64 x0), .c (.int .i64 x1)] [] K = spec_Pack_K x0 x1 (fun r => K (.t [(true, [.int .i64 r.1.e, .int .i64 r.1.b, .int .i64 r.1.l]), (false, [.bool r.2])]) []) := by kernel_rfl
def spec_Pack_D : List V → Heap Row → Option (Int × Int)
  | [.c (.int .i64 v1), .c (.int .i64 v2)], [] => some (v1, v2)
  | _, _ => none
theorem spec_Pack_D_ok {vs : List V} {W : Heap Row} {a : Int × Int} (h : spec_Pack_D vs W = some a) : vs = [.c (.int .i64 (a.1)), .c (.int .i64 (a.2))] ∧ W = [] := by
  unfold spec_Pack_D at h
  split at h
  · simp at h; subst h; exact ⟨rfl, rfl⟩
  · simp at h
noncomputable def spec_Pack_C : Callee Row := ⟨[], fun _ vs W K => (spec_Pack_D vs W).bind fun a => (spec_Pack a.1 a.2).bind fun r => K (.t [(true, [.int .i64 r.1.e, .int .i64 r.1.b, .int .i64 r.1.l]), (false, [.bool r.2])]) []⟩
theorem spec_Pack_ok : CalleeOk Try.prog rowU 292 spec_Pack_C := by
  refine calleeP (nl := false) (m0 := 0) (T := [(254, spec_BoundsOk_C)]) (H := [(0, spec_Pack_L0_H)]) (TabOk.cons spec_BoundsOk_ok TabOk.nil) (by kernel_rfl) (by kernel_rfl) (fun p hp hb => by
    simp only [List.mem_cons, List.not_mem_nil, or_false] at hp
    subst hp
    exact spec_Pack_L0_ok hb) fun ρ vs W K r h => ?_
  obtain ⟨a, ha, h1⟩ := Option.bind_eq_some_iff.1 h
  clear h
  obtain ⟨rfl, rfl⟩ := spec_Pack_D_ok ha
  obtain ⟨q, hq, h2⟩ := Option.bind_eq_some_iff.1 h1
  exact ⟨_, _, h2, (spec_Pack_nf (a.1) (a.2) _ _).trans ((spec_Pack_bind (a.1) (a.2) _).trans (by rw [hq]; rfl))⟩
/-! loop.example/g00249/spec.l1Min -/
def spec_l1Min_K (x0 : Int) (x1 : Int) {ρ : Type} (K : Int → Option ρ) : Option ρ :=
  cond (decide (x0 < x1))
    (K x0)
    (K x1)
def spec_l1Min (x0 : Int) (x1 : Int) : Option (Int) := spec_l1Min_K x0 x1 some
theorem spec_l1Min_bind (x0 : Int) (x1 : Int) {ρ : Type} (K : Int → Option ρ) : spec_l1Min_K x0 x1 K = (spec_l1Min x0 x1).bind K := by
  simp only [spec_l1Min, spec_l1Min_K, Option.bind_assoc, Option.bind_some, Option.bind_none, cond_bind, sumK_bind]
noncomputable def spec_l1Min_E : Env Row := envN false 119 0 [] []
theorem spec_l1Min_nf (x0 : Int) (x1 : Int) (ρ : Type) (K : V → Heap Row → Option ρ) : evBody rowU spec_l1Min_E (bodyC 119) [.c (.int .i64 x0), .c (.int .i64 x1)] [] K = spec_l1Min_K x0 x1 (fun r => K (.c (.int .i64 r)) []) := by kernel_rfl
def spec_l1Min_D : List V → Heap Row → Option (Int × Int)
  | [.c (.int .i64 v1), .c (.int .i64 v2)], [] => some (v1, v2)
  | _, _ => none
theorem spec_l1Min_D_ok {vs : List V} {W : Heap Row} {a : Int × Int} (h : spec_l1Min_D vs W = some a) : vs = [.c (.int .i64 (a.1)), .c (.int .i64 (a.2))] ∧ W = [] := by
  unfold spec_l1Min_D at h
  split at h
  · simp at h; subst h; exact ⟨rfl, rfl⟩
  · simp at h
def spec_l1Min_C : Callee Row := ⟨[], fun _ vs W K => (spec_l1Min_D vs W).bind fun a => (spec_l1Min a.1 a.2).bind fun r => K (.c (.int .i64 r)) []⟩
theorem spec_l1Min_ok : CalleeOk Try.prog rowU 119 spec_l1Min_C := by
  refine calleeP (nl := false) (m0 := 0) (T := []) (H := []) TabOk.nil (by kernel_rfl) (by kernel_rfl) (fun p hp => nomatch hp) fun ρ vs W K r h => ?_
  obtain ⟨a, ha, h1⟩ := Option.bind_eq_some_iff.1 h
  clear h
  obtain ⟨rfl, rfl⟩ := spec_l1Min_D_ok ha
  obtain ⟨q, hq, h2⟩ := Option.bind_eq_some_iff.1 h1
  exact ⟨_, _, h2, (spec_l1Min_nf (a.1) (a.2) _ _).trans ((spec_l1Min_bind (a.1) (a.2) _).trans (by rw [hq]; rfl))⟩
/-! loop.example/g00249/spec.Unpack -/
def spec_Unpack_K (x0 : GPacked) {ρ : Type} (K : Int × Int × Bool → Option ρ) : Option ρ :=
  Option.bind (spec_l1In x0.e 0 6) fun r1 =>
  cond ((!r1) == false)
    (Option.bind (spec_l1In x0.b 0 63) fun r2 =>
    cond ((!r2) == false)
      (Option.bind (spec_l1In x0.l 0 63) fun r3 =>
      cond (!r3)
        (K (0, 0, false))
        (cond (decide (0 ≤ x0.e)) (cond (decide (0 ≤ x0.e)) (Option.bind (spec_l1Min (w64 ((w64 (x0.b + x0.l)) * (pw2 64 x0.e))) 4096) fun r4 =>
        K (w64 (x0.b * (pw2 64 x0.e)), r4, true)) none) none))
      (K (0, 0, false)))
    (K (0, 0, false))
def spec_Unpack (x0 : GPacked) : Option (Int × Int × Bool) := spec_Unpack_K x0 some
theorem spec_Unpack_bind (x0 : GPacked) {ρ : Type} (K : Int × Int × Bool → Option ρ) : spec_Unpack_K x0 K = (spec_Unpack x0).bind K := by
  simp only [spec_Unpack, spec_Unpack_K, Option.bind_assoc, Option.bind_some, Option.bind_none, cond_bind, sumK_bind]
noncomputable def spec_Unpack_E : Env Row := envN false 293 0 [(160, spec_l1In_C), (119, spec_l1Min_C)] []
theorem spec_Unpack_nf (x0 : GPacked) (ρ : Type) (K : V → Heap Row → Option ρ) : evBody rowU spec_Unpack_E (bodyC 293) [.a [.int .i64 x0.e, .int .i64 x0.b, .int .i64 x0.l]] [] K = spec_Unpack_K x0 (fun r => K (.t [(false, [.int .i64 r.1]), (false, [.int .i64 r.2.1]), (false, [.bool r.2.2])]) []) := by kernel_rfl
def spec_Unpack_D : List V → Heap Row → Option (GPacked)
  | [.a (.int .i64 v1 :: .int .i64 v2 :: .int .i64 v3 :: [])], [] => some (⟨v1, v2, v3⟩)
  | _, _ => none
theorem spec_Unpack_D_ok {vs : List V} {W : Heap Row} {a : GPacked} (h : spec_Unpack_D vs W = some a) : vs = [.a [.int .i64 (a).e, .int .i64 (a).b, .int .i64 (a).l]] ∧ W = [] := by
  unfold spec_Unpack_D at h
  split at h
  · simp at h; subst h; exact ⟨rfl, rfl⟩
  · simp at h
def spec_Unpack_C : Callee Row := ⟨[], fun _ vs W K => (spec_Unpack_D vs W).bind fun a => (spec_Unpack a).bind fun r => K (.t [(false, [.int .i64 r.1]), (false, [.int .i64 r.2.1]), (false, [.bool r.2.2])]) []⟩
theorem spec_Unpack_ok : CalleeOk Try.prog rowU 293 spec_Unpack_C := by
  refine calleeP (nl := false) (m0 := 0) (T := [(160, spec_l1In_C), (119, spec_l1Min_C)]) (H := []) (TabOk.cons spec_l1In_ok (TabOk.cons spec_l1Min_ok TabOk.nil)) (by kernel_rfl) (by kernel_rfl) (fun p hp => nomatch hp) fun ρ vs W K r h => ?_
  obtain ⟨a, ha, h1⟩ := Option.bind_eq_some_iff.1 h
  clear h
  obtain ⟨rfl, rfl⟩ := spec_Unpack_D_ok ha
  obtain ⟨q, hq, h2⟩ := Option.bind_eq_some_iff.1 h1
  exact ⟨_, _, h2, (spec_Unpack_nf a _ _).trans ((spec_Unpack_bind a _).trans (by rw [hq]; rfl))⟩
/-! loop.example/g00249/spec.Wide -/
noncomputable def spec_Wide_K (x0 : Int) (x1 : Int) {ρ : Type} (K : Int × Int → Option ρ) : Option ρ :=
  Option.bind (spec_Pack x0 x1) fun r1 =>
  cond (!r1.2)
    (Option.bind (spec_BoundsOk x0 x1) fun r2 =>
    cond r2
      (K (0, 4096))
      (K (0, 0)))
    (Option.bind (spec_Unpack r1.1) fun r3 =>
    K (r3.1, r3.2.1))
noncomputable def spec_Wide (x0 : Int) (x1 : Int) : Option (Int × Int) := spec_Wide_K x0 x1 some
theorem spec_Wide_bind (x0 : Int) (x1 : Int) {ρ : Type} (K : Int × Int → Option ρ) : spec_Wide_K x0 x1 K = (spec_Wide x0 x1).bind K := by
  simp only [spec_Wide, spec_Wide_K, Option.bind_assoc, Option.bind_some, Option.bind_none, cond_bind, sumK_bind]
noncomputable def spec_Wide_E : Env Row := envN false 256 0 [(254, spec_BoundsOk_C), (292, spec_Pack_C), (293, spec_Unpack_C)] []
theorem spec_Wide_nf (x0 : Int) (x1 : Int) (ρ : Type) (K : V → Heap Row → Option ρ) : evBody rowU spec_Wide_E (bodyC 256) [.c (.int .i64 x0), .c (.int .i64 x1)] [] K = spec_Wide_K x0 x1 (fun r => K (.t [(false, [.int .i64 r.1]), (false, [.int .i64 r.2])]) []) := by kernel_rfl
def spec_Wide_D : List V → Heap Row → Option (Int × Int)
  | [.c (.int .i64 v1), .c (.int .i64 v2)], [] => some (v1, v2)
  | _, _ => none
theorem spec_Wide_D_ok {vs : List V} {W : Heap Row} {a : Int × Int} (h : spec_Wide_D vs W = some a) : vs = [.c (.int .i64 (a.1)), .c (.int .i64 (a.2))] ∧ W = [] := by
  unfold spec_Wide_D at h
  split at h
  · simp at h; subst h; exact ⟨rfl, rfl⟩
  · simp at h
noncomputable def spec_Wide_C : Callee Row := ⟨[], fun _ vs W K => (spec_Wide_D vs W).bind fun a => (spec_Wide a.1 a.2).bind fun r => K (.t [(false, [.int .i64 r.1]), (false, [.int .i64 r.2])]) []⟩
theorem spec_Wide_ok : CalleeOk Try.prog rowU 256 spec_Wide_C := by
  refine calleeP (nl := false) (m0 := 0) (T := [(254, spec_BoundsOk_C), (292, spec_Pack_C), (293, spec_Unpack_C)]) (H := []) (TabOk.cons spec_BoundsOk_ok (TabOk.cons spec_Pack_ok (TabOk.cons spec_Unpack_ok TabOk.nil))) (by kernel_rfl) (by kernel_rfl) (fun p hp => nomatch hp) fun ρ vs W K r h => ?_
  obtain ⟨a, ha, h1⟩ := Option.bind_eq_some_iff.1 h
  clear h
  obtain ⟨rfl, rfl⟩ := spec_Wide_D_ok ha
  obtain ⟨q, hq, h2⟩ := Option.bind_eq_some_iff.1 h1
  exact ⟨_, _, h2, (spec_Wide_nf (a.1) (a.2) _ _).trans ((spec_Wide_bind (a.1) (a.2) _).trans (by rw [hq]; rfl))⟩
/-! loop.example/g00249/spec.Exact -/
noncomputable def spec_Exact_K (x0 : Int) (x1 : Int) {ρ : Type} (K : Bool → Option ρ) : Option ρ :=
  Option.bind (spec_Wide x0 x1) fun r1 =>
  Option.bind (spec_BoundsOk x0 x1) fun r2 =>
  cond (r2 == true)
    (cond ((r1.1 == x0) == true)
      (K (r1.2 == x1))
      (K false))
    (K false)
noncomputable def spec_Exact (x0 : Int) (x1 : Int) : Option (Bool) := spec_Exact_K x0 x1 some
theorem spec_Exact_bind (x0 : Int) (x1 : Int) {ρ : Type} (K : Bool → Option ρ) : spec_Exact_K x0 x1 K = (spec_Exact x0 x1).bind K := by
  simp only [spec_Exact, spec_Exact_K, Option.bind_assoc, Option.bind_some, Option.bind_none, cond_bind, sumK_bind]
noncomputable def spec_Exact_E : Env Row := envN false 248 0 [(254, spec_BoundsOk_C), (256, spec_Wide_C)] []
theorem spec_Exact_nf (x0 : Int) (x1 : Int) (ρ : Type) (K : V → Heap Row → Option ρ) : evBody rowU spec_Exact_E (bodyC 248) [.c (.int .i64 x0), .c (.int .i64 x1)] [] K = spec_Exact_K x0 x1 (fun r => K (.c (.bool r)) []) := by kernel_rfl
def spec_Exact_D : List V → Heap Row → Option (Int × Int)
  | [.c (.int .i64 v1), .c (.int .i64 v2)], [] => some (v1, v2)
  | _, _ => none
theorem spec_Exact_D_ok {vs : List V} {W : Heap Row} {a : Int × Int} (h : spec_Exact_D vs W = some a) : vs = [.c (.int .i64 (a.1)), .c (.int .i64 (a.2))] ∧ W = [] := by
  unfold spec_Exact_D at h
  split at h
  · simp at h; subst h; exact ⟨rfl, rfl⟩
  · simp at h
noncomputable def spec_Exact_C : Callee Row := ⟨[], fun _ vs W K => (spec_Exact_D vs W).bind fun a => (spec_Exact a.1 a.2).bind fun r => K (.c (.bool r)) []⟩
theorem spec_Exact_ok : CalleeOk Try.prog rowU 248 spec_Exact_C := by
  refine calleeP (nl := false) (m0 := 0) (T := [(254, spec_BoundsOk_C), (256, spec_Wide_C)]) (H := []) (TabOk.cons spec_BoundsOk_ok (TabOk.cons spec_Wide_ok TabOk.nil)) (by kernel_rfl) (by kernel_rfl) (fun p hp => nomatch hp) fun ρ vs W K r h => ?_
  obtain ⟨a, ha, h1⟩ := Option.bind_eq_some_iff.1 h
  clear h
  obtain ⟨rfl, rfl⟩ := spec_Exact_D_ok ha
  obtain ⟨q, hq, h2⟩ := Option.bind_eq_some_iff.1 h1
  exact ⟨_, _, h2, (spec_Exact_nf (a.1) (a.2) _ _).trans ((spec_Exact_bind (a.1) (a.2) _).trans (by rw [hq]; rfl))⟩
/-! loop.example/g00249/spec.KeyOk -/
noncomputable def spec_KeyOk_K (x0 : GKey) {ρ : Type} (K : Bool → Option ρ) : Option ρ :=
  Option.bind (spec_Exact x0.base x0.top) fun r1 =>
  cond (r1 == true)
    (Option.bind (spec_l1In x0.perms 0 63) fun r2 =>
    cond (r2 == true)
      (Option.bind (spec_l1In x0.seal_ 0 7) fun r3 =>
      K r3)
      (K false))
    (K false)
noncomputable def spec_KeyOk (x0 : GKey) : Option (Bool) := spec_KeyOk_K x0 some
theorem spec_KeyOk_bind (x0 : GKey) {ρ : Type} (K : Bool → Option ρ) : spec_KeyOk_K x0 K = (spec_KeyOk x0).bind K := by
  simp only [spec_KeyOk, spec_KeyOk_K, Option.bind_assoc, Option.bind_some, Option.bind_none, cond_bind, sumK_bind]
noncomputable def spec_KeyOk_E : Env Row := envN false 197 0 [(160, spec_l1In_C), (248, spec_Exact_C)] []
theorem spec_KeyOk_nf (x0 : GKey) (ρ : Type) (K : V → Heap Row → Option ρ) : evBody rowU spec_KeyOk_E (bodyC 197) [.a [.int .i64 x0.base, .int .i64 x0.top, .int .i64 x0.perms, .int .i64 x0.seal_]] [] K = spec_KeyOk_K x0 (fun r => K (.c (.bool r)) []) := by kernel_rfl
def spec_KeyOk_D : List V → Heap Row → Option (GKey)
  | [.a (.int .i64 v1 :: .int .i64 v2 :: .int .i64 v3 :: .int .i64 v4 :: [])], [] => some (⟨v1, v2, v3, v4⟩)
  | _, _ => none
theorem spec_KeyOk_D_ok {vs : List V} {W : Heap Row} {a : GKey} (h : spec_KeyOk_D vs W = some a) : vs = [.a [.int .i64 (a).base, .int .i64 (a).top, .int .i64 (a).perms, .int .i64 (a).seal_]] ∧ W = [] := by
  unfold spec_KeyOk_D at h
  split at h
  · simp at h; subst h; exact ⟨rfl, rfl⟩
  · simp at h
noncomputable def spec_KeyOk_C : Callee Row := ⟨[], fun _ vs W K => (spec_KeyOk_D vs W).bind fun a => (spec_KeyOk a).bind fun r => K (.c (.bool r)) []⟩
theorem spec_KeyOk_ok : CalleeOk Try.prog rowU 197 spec_KeyOk_C := by
  refine calleeP (nl := false) (m0 := 0) (T := [(160, spec_l1In_C), (248, spec_Exact_C)]) (H := []) (TabOk.cons spec_l1In_ok (TabOk.cons spec_Exact_ok TabOk.nil)) (by kernel_rfl) (by kernel_rfl) (fun p hp => nomatch hp) fun ρ vs W K r h => ?_
  obtain ⟨a, ha, h1⟩ := Option.bind_eq_some_iff.1 h
  clear h
  obtain ⟨rfl, rfl⟩ := spec_KeyOk_D_ok ha
  obtain ⟨q, hq, h2⟩ := Option.bind_eq_some_iff.1 h1
  exact ⟨_, _, h2, (spec_KeyOk_nf a _ _).trans ((spec_KeyOk_bind a _).trans (by rw [hq]; rfl))⟩
/-! loop.example/g00249/spec.WordOk -/
noncomputable def spec_WordOk_K (x0 : GWord) {ρ : Type} (K : Bool → Option ρ) : Option ρ :=
  Option.bind (spec_l1In x0.n 0 65535) fun r1 =>
  cond (r1 == true)
    (cond (x0.is == true)
      (Option.bind (spec_KeyOk x0.key) fun r2 =>
      cond (r2 == false)
        (cond ((!x0.is) == true)
          (K ((x0.key.base == 0) && ((x0.key.top == 0) && ((x0.key.perms == 0) && ((x0.key.seal_ == 0) && true)))))
          (K false))
        (K true))
      (cond ((!x0.is) == true)
        (K ((x0.key.base == 0) && ((x0.key.top == 0) && ((x0.key.perms == 0) && ((x0.key.seal_ == 0) && true)))))
        (K false)))
    (K false)
noncomputable def spec_WordOk (x0 : GWord) : Option (Bool) := spec_WordOk_K x0 some
theorem spec_WordOk_bind (x0 : GWord) {ρ : Type} (K : Bool → Option ρ) : spec_WordOk_K x0 K = (spec_WordOk x0).bind K := by
  simp only [spec_WordOk, spec_WordOk_K, Option.bind_assoc, Option.bind_some, Option.bind_none, cond_bind, sumK_bind]
noncomputable def spec_WordOk_E : Env Row := envN false 117 0 [(160, spec_l1In_C), (197, spec_KeyOk_C)] []
theorem spec_WordOk_nf (x0 : GWord) (ρ : Type) (K : V → Heap Row → Option ρ) : evBody rowU spec_WordOk_E (bodyC 117) [.a [.int .i64 x0.n, .bool x0.is, .int .i64 x0.key.base, .int .i64 x0.key.top, .int .i64 x0.key.perms, .int .i64 x0.key.seal_]] [] K = spec_WordOk_K x0 (fun r => K (.c (.bool r)) []) := by kernel_rfl
def spec_WordOk_D : List V → Heap Row → Option (GWord)
  | [.a (.int .i64 v1 :: .bool v2 :: .int .i64 v3 :: .int .i64 v4 :: .int .i64 v5 :: .int .i64 v6 :: [])], [] => some (⟨v1, v2, ⟨v3, v4, v5, v6⟩⟩)
  | _, _ => none
theorem spec_WordOk_D_ok {vs : List V} {W : Heap Row} {a : GWord} (h : spec_WordOk_D vs W = some a) : vs = [.a [.int .i64 (a).n, .bool (a).is, .int .i64 (a).key.base, .int .i64 (a).key.top, .int .i64 (a).key.perms, .int .i64 (a).key.seal_]] ∧ W = [] := by
  unfold spec_WordOk_D at h
  split at h
  · simp at h; subst h; exact ⟨rfl, rfl⟩
  · simp at h
noncomputable def spec_WordOk_C : Callee Row := ⟨[], fun _ vs W K => (spec_WordOk_D vs W).bind fun a => (spec_WordOk a).bind fun r => K (.c (.bool r)) []⟩
theorem spec_WordOk_ok : CalleeOk Try.prog rowU 117 spec_WordOk_C := by
  refine calleeP (nl := false) (m0 := 0) (T := [(160, spec_l1In_C), (197, spec_KeyOk_C)]) (H := []) (TabOk.cons spec_l1In_ok (TabOk.cons spec_KeyOk_ok TabOk.nil)) (by kernel_rfl) (by kernel_rfl) (fun p hp => nomatch hp) fun ρ vs W K r h => ?_
  obtain ⟨a, ha, h1⟩ := Option.bind_eq_some_iff.1 h
  clear h
  obtain ⟨rfl, rfl⟩ := spec_WordOk_D_ok ha
  obtain ⟨q, hq, h2⟩ := Option.bind_eq_some_iff.1 h1
  exact ⟨_, _, h2, (spec_WordOk_nf a _ _).trans ((spec_WordOk_bind a _).trans (by rw [hq]; rfl))⟩
/-! loop.example/g00249/spec.MemoryOk -/
noncomputable def spec_MemoryOk_L0_K (l0 : List GWord) (l1 : List Bool) (n2 : Int) {ρ : Type} (A : Int → Option ρ) (X : Unit → Option ρ) (R : Unit → Option ρ) : Option ρ :=
  cond (decide (n2 < 24))
    (cond (decide (0 ≤ n2)) (cond (decide (n2 < (((l0.length : Nat) : Int)))) (Option.bind (spec_WordOk (List.getD l0 (n2.toNat) (default))) fun r1 =>
    cond (!r1)
      (R ())
      (A (w64 (n2 + 1)))) none) none)
    (X ())
noncomputable def spec_MemoryOk_L0_step (l0 : List GWord) (l1 : List Bool) (s : Int) : Option (Rnd (Int) (Unit) (Unit)) := spec_MemoryOk_L0_K l0 l1 s (fun s => some (.again s)) (fun t => some (.exit t)) (fun k => some (.ret k))
theorem spec_MemoryOk_L0_bind (l0 : List GWord) (l1 : List Bool) (s : Int) {ρ : Type} (A : Int → Option ρ) (X : Unit → Option ρ) (R : Unit → Option ρ) : spec_MemoryOk_L0_K l0 l1 s A X R = (spec_MemoryOk_L0_step l0 l1 s).bind (rndE A X R) := by
  simp only [spec_MemoryOk_L0_step, spec_MemoryOk_L0_K, Option.bind_assoc, Option.bind_some, Option.bind_none, cond_bind, sumK_bind, rndE_again, rndE_exit, rndE_ret]
def spec_MemoryOk_L0_st (p : List GWord × List Bool) (s : Int) : List V × Heap Row := ([.c (.ptr 2 0), .c (.int .i64 (s))], [⟨.row ⟨.word, p.1⟩, 0, 1⟩, ⟨.row ⟨.bool, p.2⟩, 0, 1⟩, ⟨.box [.sl 0 0, .sl 1 0], 0, 2⟩])
def spec_MemoryOk_L0_so (p : List GWord × List Bool) (t : Unit) : List V × Heap Row := ([], [⟨.row ⟨.word, p.1⟩, 0, 1⟩, ⟨.row ⟨.bool, p.2⟩, 0, 1⟩])
def spec_MemoryOk_L0_sr (p : List GWord × List Bool) (k : Unit) : List V × Heap Row := ([.c (.bool false)], [⟨.row ⟨.word, p.1⟩, 0, 1⟩, ⟨.row ⟨.bool, p.2⟩, 0, 1⟩])
def spec_MemoryOk_L0_D : List V → Heap Row → Option ((List GWord × List Bool) × (Int))
  | [.c (.ptr 2 0), .c (.int .i64 v1)], [⟨.row ⟨.word, v2⟩, 0, 1⟩, ⟨.row ⟨.bool, v3⟩, 0, 1⟩, ⟨.box [.sl 0 0, .sl 1 0], 0, 2⟩] => some ((v2, v3), (v1))
  | _, _ => none
theorem spec_MemoryOk_L0_D_ok (vs : List V) (L : Heap Row) (p : List GWord × List Bool) (s : Int) (h : spec_MemoryOk_L0_D vs L = some (p, s)) : spec_MemoryOk_L0_st p s = (vs, L) := by
  unfold spec_MemoryOk_L0_D at h
  split at h
  · simp at h; obtain ⟨rfl, rfl⟩ := h; rfl
  · simp at h
noncomputable def spec_MemoryOk_L0_H : LoopH Row := loopR [1, 3] [] spec_MemoryOk_L0_D (fun p => spec_MemoryOk_L0_step (p.1) (p.2)) spec_MemoryOk_L0_so spec_MemoryOk_L0_sr
theorem spec_MemoryOk_L0_nf (p : List GWord × List Bool) (s : Int) (ρ : Type) (again Kx Kr : List V → Heap Row → Option ρ) : evRound rowU (envOf 116 2 [(117, spec_WordOk_C)] [(0, spec_MemoryOk_L0_H)]) 0 spec_MemoryOk_L0_H (loopC 116 0) again (spec_MemoryOk_L0_st p s).1 (spec_MemoryOk_L0_st p s).2 Kx Kr = spec_MemoryOk_L0_K (p.1) (p.2) s (fun s => again (spec_MemoryOk_L0_st p s).1 (spec_MemoryOk_L0_st p s).2) (fun t => Kx (spec_MemoryOk_L0_so p t).1 (spec_MemoryOk_L0_so p t).2) (fun k => Kr (spec_MemoryOk_L0_sr p k).1 (spec_MemoryOk_L0_sr p k).2) := by kernel_rfl
theorem spec_MemoryOk_L0_ok (hb : LoopsOk Try.prog rowU (envOf 116 2 [(117, spec_WordOk_C)] [(0, spec_MemoryOk_L0_H)]) (loopAt (codeP 116) 0)) : LoopOk Try.prog rowU (envOf 116 2 [(117, spec_WordOk_C)] [(0, spec_MemoryOk_L0_H)]) 0 (loopAt (codeP 116) 0) spec_MemoryOk_L0_H :=
  loopR_ok tagOk mixed envNl (envT (TabOk.cons spec_WordOk_ok TabOk.nil)) hb spec_MemoryOk_L0_st spec_MemoryOk_L0_D_ok fun p s ρ A Kx Kr => (spec_MemoryOk_L0_nf p s ρ A Kx Kr).trans (spec_MemoryOk_L0_bind (p.1) (p.2) s _ _ _)
noncomputable def spec_MemoryOk_K (x0 : GMemory) {ρ : Type} (K : Bool → Option ρ) : Option ρ :=
  cond (((((x0.words.length : Nat) : Int)) != 24) == false)
    (cond ((((x0.gone.length : Nat) : Int)) != 24)
      (K false)
      (Option.bind (runL (spec_MemoryOk_L0_step x0.words x0.gone) 0) fun ot2 => sumK ot2
        (fun t2 => K true)
        (fun k3 => K false)))
    (K false)
noncomputable def spec_MemoryOk (x0 : GMemory) : Option (Bool) := spec_MemoryOk_K x0 some
theorem spec_MemoryOk_bind (x0 : GMemory) {ρ : Type} (K : Bool → Option ρ) : spec_MemoryOk_K x0 K = (spec_MemoryOk x0).bind K := by
  simp only [spec_MemoryOk, spec_MemoryOk_K, Option.bind_assoc, Option.bind_some, Option.bind_none, cond_bind, sumK_bind]
noncomputable def spec_MemoryOk_E : Env Row := envN false 116 2 [(117, spec_WordOk_C)] [(0, spec_MemoryOk_L0_H)]
theorem spec_MemoryOk_nf (x0 : GMemory) (ρ : Type) (K : V → Heap Row → Option ρ) : evBody rowU spec_MemoryOk_E (bodyC 116) [.a [.sl 0 0, .sl 1 0]] [⟨.row ⟨.word, x0.words⟩, 0, 1⟩, ⟨.row ⟨.bool, x0.gone⟩, 0, 1⟩] K = spec_MemoryOk_K x0 (fun r => K (.c (.bool r)) [⟨.row ⟨.word, x0.words⟩, 0, 1⟩, ⟨.row ⟨.bool, x0.gone⟩, 0, 1⟩]) := by kernel_rfl
def spec_MemoryOk_D : List V → Heap Row → Option (GMemory)
  | [.a (.sl 0 0 :: .sl 1 0 :: [])], [⟨.row ⟨.word, v1⟩, 0, 1⟩, ⟨.row ⟨.bool, v2⟩, 0, 1⟩] => some (⟨v1, v2⟩)
  | _, _ => none
theorem spec_MemoryOk_D_ok {vs : List V} {W : Heap Row} {a : GMemory} (h : spec_MemoryOk_D vs W = some a) : vs = [.a [.sl 0 0, .sl 1 0]] ∧ W = [⟨.row ⟨.word, (a).words⟩, 0, 1⟩, ⟨.row ⟨.bool, (a).gone⟩, 0, 1⟩] := by
  unfold spec_MemoryOk_D at h
  split at h
  · simp at h; subst h; exact ⟨rfl, rfl⟩
  · simp at h
noncomputable def spec_MemoryOk_C : Callee Row := ⟨[(false, 0), (false, 0)], fun _ vs W K => (spec_MemoryOk_D vs W).bind fun a => (spec_MemoryOk a).bind fun r => K (.c (.bool r)) [⟨.row ⟨.word, (a).words⟩, 0, 1⟩, ⟨.row ⟨.bool, (a).gone⟩, 0, 1⟩]⟩
theorem spec_MemoryOk_ok : CalleeOk Try.prog rowU 116 spec_MemoryOk_C := by
  refine calleeP (nl := false) (m0 := 2) (T := [(117, spec_WordOk_C)]) (H := [(0, spec_MemoryOk_L0_H)]) (TabOk.cons spec_WordOk_ok TabOk.nil) (by kernel_rfl) (by kernel_rfl) (fun p hp hb => by
    simp only [List.mem_cons, List.not_mem_nil, or_false] at hp
    subst hp
    exact spec_MemoryOk_L0_ok hb) fun ρ vs W K r h => ?_
  obtain ⟨a, ha, h1⟩ := Option.bind_eq_some_iff.1 h
  clear h
  obtain ⟨rfl, rfl⟩ := spec_MemoryOk_D_ok ha
  obtain ⟨q, hq, h2⟩ := Option.bind_eq_some_iff.1 h1
  exact ⟨_, _, h2, (spec_MemoryOk_nf a _ _).trans ((spec_MemoryOk_bind a _).trans (by rw [hq]; rfl))⟩
/-! loop.example/g00249/spec.l23Spans -/
noncomputable def spec_l23Spans_L0_K (l0 : List GSpan) (n1 : Int) {ρ : Type} (A : Int → Option ρ) (X : Unit → Option ρ) (R : Unit → Option ρ) : Option ρ :=
  cond (decide (n1 < (((l0.length : Nat) : Int))))
    (cond (decide (0 ≤ n1)) (cond (decide (n1 < (((l0.length : Nat) : Int)))) (Option.bind (spec_l1In (List.getD l0 (n1.toNat) (default)).at_ 0 23) fun r1 =>
    cond ((!r1) == false)
      (cond (decide (0 ≤ n1)) (cond (decide (n1 < (((l0.length : Nat) : Int)))) (cond (decide (0 ≤ n1)) (cond (decide (n1 < (((l0.length : Nat) : Int)))) (Option.bind (spec_l1In (List.getD l0 (n1.toNat) (default)).len 1 (w64 (24 - (List.getD l0 (n1.toNat) (default)).at_))) fun r2 =>
      cond ((!r2) == false)
        (cond ((decide (n1 > 0)) == true)
          (cond (decide (0 ≤ (w64 (n1 - 1)))) (cond (decide ((w64 (n1 - 1)) < (((l0.length : Nat) : Int)))) (cond (decide (0 ≤ n1)) (cond (decide (n1 < (((l0.length : Nat) : Int)))) (cond (decide ((List.getD l0 ((w64 (n1 - 1)).toNat) (default)).at_ ≥ (List.getD l0 (n1.toNat) (default)).at_))
            (R ())
            (A (w64 (n1 + 1)))) none) none) none) none)
          (A (w64 (n1 + 1))))
        (R ())) none) none) none) none)
      (R ())) none) none)
    (X ())
noncomputable def spec_l23Spans_L0_step (l0 : List GSpan) (s : Int) : Option (Rnd (Int) (Unit) (Unit)) := spec_l23Spans_L0_K l0 s (fun s => some (.again s)) (fun t => some (.exit t)) (fun k => some (.ret k))
theorem spec_l23Spans_L0_bind (l0 : List GSpan) (s : Int) {ρ : Type} (A : Int → Option ρ) (X : Unit → Option ρ) (R : Unit → Option ρ) : spec_l23Spans_L0_K l0 s A X R = (spec_l23Spans_L0_step l0 s).bind (rndE A X R) := by
  simp only [spec_l23Spans_L0_step, spec_l23Spans_L0_K, Option.bind_assoc, Option.bind_some, Option.bind_none, cond_bind, sumK_bind, rndE_again, rndE_exit, rndE_ret]
def spec_l23Spans_L0_st (p : List GSpan) (s : Int) : List V × Heap Row := ([.c (.sl 0 0), .c (.int .i64 (s))], [⟨.row ⟨.span, p⟩, 0, 1⟩])
def spec_l23Spans_L0_so (p : List GSpan) (t : Unit) : List V × Heap Row := ([], [⟨.row ⟨.span, p⟩, 0, 1⟩])
def spec_l23Spans_L0_sr (p : List GSpan) (k : Unit) : List V × Heap Row := ([.c (.bool false)], [⟨.row ⟨.span, p⟩, 0, 1⟩])
def spec_l23Spans_L0_D : List V → Heap Row → Option ((List GSpan) × (Int))
  | [.c (.sl 0 0), .c (.int .i64 v1)], [⟨.row ⟨.span, v2⟩, 0, 1⟩] => some ((v2), (v1))
  | _, _ => none
theorem spec_l23Spans_L0_D_ok (vs : List V) (L : Heap Row) (p : List GSpan) (s : Int) (h : spec_l23Spans_L0_D vs L = some (p, s)) : spec_l23Spans_L0_st p s = (vs, L) := by
  unfold spec_l23Spans_L0_D at h
  split at h
  · simp at h; obtain ⟨rfl, rfl⟩ := h; rfl
  · simp at h
noncomputable def spec_l23Spans_L0_H : LoopH Row := loopR [0, 3] [] spec_l23Spans_L0_D (fun p => spec_l23Spans_L0_step p) spec_l23Spans_L0_so spec_l23Spans_L0_sr
theorem spec_l23Spans_L0_nf (p : List GSpan) (s : Int) (ρ : Type) (again Kx Kr : List V → Heap Row → Option ρ) : evRound rowU (envOf 202 1 [(160, spec_l1In_C)] [(0, spec_l23Spans_L0_H)]) 0 spec_l23Spans_L0_H (loopC 202 0) again (spec_l23Spans_L0_st p s).1 (spec_l23Spans_L0_st p s).2 Kx Kr = spec_l23Spans_L0_K p s (fun s => again (spec_l23Spans_L0_st p s).1 (spec_l23Spans_L0_st p s).2) (fun t => Kx (spec_l23Spans_L0_so p t).1 (spec_l23Spans_L0_so p t).2) (fun k => Kr (spec_l23Spans_L0_sr p k).1 (spec_l23Spans_L0_sr p k).2) := by kernel_rfl
theorem spec_l23Spans_L0_ok (hb : LoopsOk Try.prog rowU (envOf 202 1 [(160, spec_l1In_C)] [(0, spec_l23Spans_L0_H)]) (loopAt (codeP 202) 0)) : LoopOk Try.prog rowU (envOf 202 1 [(160, spec_l1In_C)] [(0, spec_l23Spans_L0_H)]) 0 (loopAt (codeP 202) 0) spec_l23Spans_L0_H :=
  loopR_ok tagOk mixed envNl (envT (TabOk.cons spec_l1In_ok TabOk.nil)) hb spec_l23Spans_L0_st spec_l23Spans_L0_D_ok fun p s ρ A Kx Kr => (spec_l23Spans_L0_nf p s ρ A Kx Kr).trans (spec_l23Spans_L0_bind p s _ _ _)
noncomputable def spec_l23Spans_K (x0 : List GSpan) {ρ : Type} (K : Bool → Option ρ) : Option ρ :=
  Option.bind (runL (spec_l23Spans_L0_step x0) 0) fun ot3 => sumK ot3
    (fun t3 => K true)
    (fun k4 => K false)
noncomputable def spec_l23Spans (x0 : List GSpan) : Option (Bool) := spec_l23Spans_K x0 some
theorem spec_l23Spans_bind (x0 : List GSpan) {ρ : Type} (K : Bool → Option ρ) : spec_l23Spans_K x0 K = (spec_l23Spans x0).bind K := by
  simp only [spec_l23Spans, spec_l23Spans_K, Option.bind_assoc, Option.bind_some, Option.bind_none, cond_bind, sumK_bind]
noncomputable def spec_l23Spans_E : Env Row := envN false 202 1 [(160, spec_l1In_C)] [(0, spec_l23Spans_L0_H)]
theorem spec_l23Spans_nf (x0 : List GSpan) (ρ : Type) (K : V → Heap Row → Option ρ) : evBody rowU spec_l23Spans_E (bodyC 202) [.c (.sl 0 0)] [⟨.row ⟨.span, x0⟩, 0, 1⟩] K = spec_l23Spans_K x0 (fun r => K (.c (.bool r)) [⟨.row ⟨.span, x0⟩, 0, 1⟩]) := by kernel_rfl
def spec_l23Spans_D : List V → Heap Row → Option (List GSpan)
  | [.c (.sl 0 0)], [⟨.row ⟨.span, v1⟩, 0, 1⟩] => some (v1)
  | _, _ => none
theorem spec_l23Spans_D_ok {vs : List V} {W : Heap Row} {a : List GSpan} (h : spec_l23Spans_D vs W = some a) : vs = [.c (.sl 0 0)] ∧ W = [⟨.row ⟨.span, a⟩, 0, 1⟩] := by
  unfold spec_l23Spans_D at h
  split at h
  · simp at h; subst h; exact ⟨rfl, rfl⟩
  · simp at h
noncomputable def spec_l23Spans_C : Callee Row := ⟨[(false, 0)], fun _ vs W K => (spec_l23Spans_D vs W).bind fun a => (spec_l23Spans a).bind fun r => K (.c (.bool r)) [⟨.row ⟨.span, a⟩, 0, 1⟩]⟩
theorem spec_l23Spans_ok : CalleeOk Try.prog rowU 202 spec_l23Spans_C := by
  refine calleeP (nl := false) (m0 := 1) (T := [(160, spec_l1In_C)]) (H := [(0, spec_l23Spans_L0_H)]) (TabOk.cons spec_l1In_ok TabOk.nil) (by kernel_rfl) (by kernel_rfl) (fun p hp hb => by
    simp only [List.mem_cons, List.not_mem_nil, or_false] at hp
    subst hp
    exact spec_l23Spans_L0_ok hb) fun ρ vs W K r h => ?_
  obtain ⟨a, ha, h1⟩ := Option.bind_eq_some_iff.1 h
  clear h
  obtain ⟨rfl, rfl⟩ := spec_l23Spans_D_ok ha
  obtain ⟨q, hq, h2⟩ := Option.bind_eq_some_iff.1 h1
  exact ⟨_, _, h2, (spec_l23Spans_nf a _ _).trans ((spec_l23Spans_bind a _).trans (by rw [hq]; rfl))⟩
/-! loop.example/g00249/spec.l23In -/
noncomputable def spec_l23In_L0_K (l0 : List GSpan) (n1 : Int) (n2 : Int) {ρ : Type} (A : Int → Option ρ) (X : Unit → Option ρ) (R : Unit → Option ρ) : Option ρ :=
  cond (decide (n2 < (((l0.length : Nat) : Int))))
    (cond (decide (0 ≤ n2)) (cond (decide (n2 < (((l0.length : Nat) : Int)))) (cond (decide (0 ≤ n2)) (cond (decide (n2 < (((l0.length : Nat) : Int)))) (cond (decide (0 ≤ n2)) (cond (decide (n2 < (((l0.length : Nat) : Int)))) (Option.bind (spec_l1In n1 (List.getD l0 (n2.toNat) (default)).at_ (w64 ((w64 ((List.getD l0 (n2.toNat) (default)).at_ + (List.getD l0 (n2.toNat) (default)).len)) - 1))) fun r1 =>
    cond r1
      (R ())
      (A (w64 (n2 + 1)))) none) none) none) none) none) none)
    (X ())
noncomputable def spec_l23In_L0_step (l0 : List GSpan) (n1 : Int) (s : Int) : Option (Rnd (Int) (Unit) (Unit)) := spec_l23In_L0_K l0 n1 s (fun s => some (.again s)) (fun t => some (.exit t)) (fun k => some (.ret k))
theorem spec_l23In_L0_bind (l0 : List GSpan) (n1 : Int) (s : Int) {ρ : Type} (A : Int → Option ρ) (X : Unit → Option ρ) (R : Unit → Option ρ) : spec_l23In_L0_K l0 n1 s A X R = (spec_l23In_L0_step l0 n1 s).bind (rndE A X R) := by
  simp only [spec_l23In_L0_step, spec_l23In_L0_K, Option.bind_assoc, Option.bind_some, Option.bind_none, cond_bind, sumK_bind, rndE_again, rndE_exit, rndE_ret]
def spec_l23In_L0_st (p : List GSpan × Int) (s : Int) : List V × Heap Row := ([.c (.sl 0 0), .c (.int .i64 (p.2)), .c (.int .i64 (s))], [⟨.row ⟨.span, p.1⟩, 0, 1⟩])
def spec_l23In_L0_so (p : List GSpan × Int) (t : Unit) : List V × Heap Row := ([], [⟨.row ⟨.span, p.1⟩, 0, 1⟩])
def spec_l23In_L0_sr (p : List GSpan × Int) (k : Unit) : List V × Heap Row := ([.c (.bool true)], [⟨.row ⟨.span, p.1⟩, 0, 1⟩])
def spec_l23In_L0_D : List V → Heap Row → Option ((List GSpan × Int) × (Int))
  | [.c (.sl 0 0), .c (.int .i64 v1), .c (.int .i64 v2)], [⟨.row ⟨.span, v3⟩, 0, 1⟩] => some ((v3, v1), (v2))
  | _, _ => none
theorem spec_l23In_L0_D_ok (vs : List V) (L : Heap Row) (p : List GSpan × Int) (s : Int) (h : spec_l23In_L0_D vs L = some (p, s)) : spec_l23In_L0_st p s = (vs, L) := by
  unfold spec_l23In_L0_D at h
  split at h
  · simp at h; obtain ⟨rfl, rfl⟩ := h; rfl
  · simp at h
noncomputable def spec_l23In_L0_H : LoopH Row := loopR [0, 1, 5] [] spec_l23In_L0_D (fun p => spec_l23In_L0_step (p.1) (p.2)) spec_l23In_L0_so spec_l23In_L0_sr
theorem spec_l23In_L0_nf (p : List GSpan × Int) (s : Int) (ρ : Type) (again Kx Kr : List V → Heap Row → Option ρ) : evRound rowU (envOf 203 1 [(160, spec_l1In_C)] [(0, spec_l23In_L0_H)]) 0 spec_l23In_L0_H (loopC 203 0) again (spec_l23In_L0_st p s).1 (spec_l23In_L0_st p s).2 Kx Kr = spec_l23In_L0_K (p.1) (p.2) s (fun s => again (spec_l23In_L0_st p s).1 (spec_l23In_L0_st p s).2) (fun t => Kx (spec_l23In_L0_so p t).1 (spec_l23In_L0_so p t).2) (fun k => Kr (spec_l23In_L0_sr p k).1 (spec_l23In_L0_sr p k).2) := by kernel_rfl
theorem spec_l23In_L0_ok (hb : LoopsOk Try.prog rowU (envOf 203 1 [(160, spec_l1In_C)] [(0, spec_l23In_L0_H)]) (loopAt (codeP 203) 0)) : LoopOk Try.prog rowU (envOf 203 1 [(160, spec_l1In_C)] [(0, spec_l23In_L0_H)]) 0 (loopAt (codeP 203) 0) spec_l23In_L0_H :=
  loopR_ok tagOk mixed envNl (envT (TabOk.cons spec_l1In_ok TabOk.nil)) hb spec_l23In_L0_st spec_l23In_L0_D_ok fun p s ρ A Kx Kr => (spec_l23In_L0_nf p s ρ A Kx Kr).trans (spec_l23In_L0_bind (p.1) (p.2) s _ _ _)
noncomputable def spec_l23In_K (x0 : List GSpan) (x1 : Int) {ρ : Type} (K : Bool → Option ρ) : Option ρ :=
  Option.bind (runL (spec_l23In_L0_step x0 x1) 0) fun ot2 => sumK ot2
    (fun t2 => K false)
    (fun k3 => K true)
noncomputable def spec_l23In (x0 : List GSpan) (x1 : Int) : Option (Bool) := spec_l23In_K x0 x1 some
theorem spec_l23In_bind (x0 : List GSpan) (x1 : Int) {ρ : Type} (K : Bool → Option ρ) : spec_l23In_K x0 x1 K = (spec_l23In x0 x1).bind K := by
  simp only [spec_l23In, spec_l23In_K, Option.bind_assoc, Option.bind_some, Option.bind_none, cond_bind, sumK_bind]
noncomputable def spec_l23In_E : Env Row := envN false 203 1 [(160, spec_l1In_C)] [(0, spec_l23In_L0_H)]
theorem spec_l23In_nf (x0 : List GSpan) (x1 : Int) (ρ : Type) (K : V → Heap Row → Option ρ) : evBody rowU spec_l23In_E (bodyC 203) [.c (.sl 0 0), .c (.int .i64 x1)] [⟨.row ⟨.span, x0⟩, 0, 1⟩] K = spec_l23In_K x0 x1 (fun r => K (.c (.bool r)) [⟨.row ⟨.span, x0⟩, 0, 1⟩]) := by kernel_rfl
def spec_l23In_D : List V → Heap Row → Option (List GSpan × Int)
  | [.c (.sl 0 0), .c (.int .i64 v1)], [⟨.row ⟨.span, v2⟩, 0, 1⟩] => some (v2, v1)
  | _, _ => none
theorem spec_l23In_D_ok {vs : List V} {W : Heap Row} {a : List GSpan × Int} (h : spec_l23In_D vs W = some a) : vs = [.c (.sl 0 0), .c (.int .i64 (a.2))] ∧ W = [⟨.row ⟨.span, a.1⟩, 0, 1⟩] := by
  unfold spec_l23In_D at h
  split at h
  · simp at h; subst h; exact ⟨rfl, rfl⟩
  · simp at h
noncomputable def spec_l23In_C : Callee Row := ⟨[(false, 0)], fun _ vs W K => (spec_l23In_D vs W).bind fun a => (spec_l23In a.1 a.2).bind fun r => K (.c (.bool r)) [⟨.row ⟨.span, a.1⟩, 0, 1⟩]⟩
theorem spec_l23In_ok : CalleeOk Try.prog rowU 203 spec_l23In_C := by
  refine calleeP (nl := false) (m0 := 1) (T := [(160, spec_l1In_C)]) (H := [(0, spec_l23In_L0_H)]) (TabOk.cons spec_l1In_ok TabOk.nil) (by kernel_rfl) (by kernel_rfl) (fun p hp hb => by
    simp only [List.mem_cons, List.not_mem_nil, or_false] at hp
    subst hp
    exact spec_l23In_L0_ok hb) fun ρ vs W K r h => ?_
  obtain ⟨a, ha, h1⟩ := Option.bind_eq_some_iff.1 h
  clear h
  obtain ⟨rfl, rfl⟩ := spec_l23In_D_ok ha
  obtain ⟨q, hq, h2⟩ := Option.bind_eq_some_iff.1 h1
  exact ⟨_, _, h2, (spec_l23In_nf (a.1) (a.2) _ _).trans ((spec_l23In_bind (a.1) (a.2) _).trans (by rw [hq]; rfl))⟩
/-! loop.example/g00249/spec.HeapOk -/
noncomputable def spec_HeapOk_L0_K (l0 : List GWord) (l1 : List Bool) (l2 : List GSpan) (l3 : List GSpan) (l4 : List Int) (n5 : Int) {ρ : Type} (A : Int → Option ρ) (X : Unit → Option ρ) (R : Unit → Option ρ) : Option ρ :=
  cond (decide (n5 < 24))
    (cond (decide (0 ≤ n5)) (cond (decide (n5 < (((l4.length : Nat) : Int)))) (cond ((decide ((List.getD l4 (n5.toNat) 0) > 1)) == false)
      (cond (decide (0 ≤ n5)) (cond (decide (n5 < (((l1.length : Nat) : Int)))) (Option.bind (spec_l23In l3 n5) fun r5 =>
      cond (!((List.getD l1 (n5.toNat) false) == r5))
        (R ())
        (A (w64 (n5 + 1)))) none) none)
      (R ())) none) none)
    (X ())
noncomputable def spec_HeapOk_L0_step (l0 : List GWord) (l1 : List Bool) (l2 : List GSpan) (l3 : List GSpan) (l4 : List Int) (s : Int) : Option (Rnd (Int) (Unit) (Unit)) := spec_HeapOk_L0_K l0 l1 l2 l3 l4 s (fun s => some (.again s)) (fun t => some (.exit t)) (fun k => some (.ret k))
theorem spec_HeapOk_L0_bind (l0 : List GWord) (l1 : List Bool) (l2 : List GSpan) (l3 : List GSpan) (l4 : List Int) (s : Int) {ρ : Type} (A : Int → Option ρ) (X : Unit → Option ρ) (R : Unit → Option ρ) : spec_HeapOk_L0_K l0 l1 l2 l3 l4 s A X R = (spec_HeapOk_L0_step l0 l1 l2 l3 l4 s).bind (rndE A X R) := by
  simp only [spec_HeapOk_L0_step, spec_HeapOk_L0_K, Option.bind_assoc, Option.bind_some, Option.bind_none, cond_bind, sumK_bind, rndE_again, rndE_exit, rndE_ret]
def spec_HeapOk_L0_st (p : List GWord × List Bool × List GSpan × List GSpan × List Int) (s : Int) : List V × Heap Row := ([.c (.ptr 4 0), .c (.sl 5 0), .c (.int .i64 (s))], [⟨.row ⟨.word, p.1⟩, 0, 1⟩, ⟨.row ⟨.bool, p.2.1⟩, 0, 1⟩, ⟨.row ⟨.span, p.2.2.1⟩, 0, 1⟩, ⟨.row ⟨.span, p.2.2.2.1⟩, 0, 1⟩, ⟨.box [.sl 0 0, .sl 1 0, .sl 2 0, .sl 3 0], 0, 2⟩, ⟨.row ⟨.int, p.2.2.2.2⟩, 0, 2⟩])
def spec_HeapOk_L0_so (p : List GWord × List Bool × List GSpan × List GSpan × List Int) (t : Unit) : List V × Heap Row := ([], [⟨.row ⟨.word, p.1⟩, 0, 1⟩, ⟨.row ⟨.bool, p.2.1⟩, 0, 1⟩, ⟨.row ⟨.span, p.2.2.1⟩, 0, 1⟩, ⟨.row ⟨.span, p.2.2.2.1⟩, 0, 1⟩])
def spec_HeapOk_L0_sr (p : List GWord × List Bool × List GSpan × List GSpan × List Int) (k : Unit) : List V × Heap Row := ([.c (.bool false)], [⟨.row ⟨.word, p.1⟩, 0, 1⟩, ⟨.row ⟨.bool, p.2.1⟩, 0, 1⟩, ⟨.row ⟨.span, p.2.2.1⟩, 0, 1⟩, ⟨.row ⟨.span, p.2.2.2.1⟩, 0, 1⟩])
def spec_HeapOk_L0_D : List V → Heap Row → Option ((List GWord × List Bool × List GSpan × List GSpan × List Int) × (Int))
  | [.c (.ptr 4 0), .c (.sl 5 0), .c (.int .i64 v1)], [⟨.row ⟨.word, v2⟩, 0, 1⟩, ⟨.row ⟨.bool, v3⟩, 0, 1⟩, ⟨.row ⟨.span, v4⟩, 0, 1⟩, ⟨.row ⟨.span, v5⟩, 0, 1⟩, ⟨.box [.sl 0 0, .sl 1 0, .sl 2 0, .sl 3 0], 0, 2⟩, ⟨.row ⟨.int, v6⟩, 0, 2⟩] => some ((v2, v3, v4, v5, v6), (v1))
  | _, _ => none
theorem spec_HeapOk_L0_D_ok (vs : List V) (L : Heap Row) (p : List GWord × List Bool × List GSpan × List GSpan × List Int) (s : Int) (h : spec_HeapOk_L0_D vs L = some (p, s)) : spec_HeapOk_L0_st p s = (vs, L) := by
  unfold spec_HeapOk_L0_D at h
  split at h
  · simp at h; obtain ⟨rfl, rfl⟩ := h; rfl
  · simp at h
noncomputable def spec_HeapOk_L0_H : LoopH Row := loopR [1, 3, 4] [] spec_HeapOk_L0_D (fun p => spec_HeapOk_L0_step (p.1) (p.2.1) (p.2.2.1) (p.2.2.2.1) (p.2.2.2.2)) spec_HeapOk_L0_so spec_HeapOk_L0_sr
theorem spec_HeapOk_L0_nf (p : List GWord × List Bool × List GSpan × List GSpan × List Int) (s : Int) (ρ : Type) (again Kx Kr : List V → Heap Row → Option ρ) : evRound rowU (envOf 132 4 [(131, spec_l23Owners_C), (116, spec_MemoryOk_C), (202, spec_l23Spans_C), (203, spec_l23In_C)] [(0, spec_HeapOk_L0_H)]) 0 spec_HeapOk_L0_H (loopC 132 0) again (spec_HeapOk_L0_st p s).1 (spec_HeapOk_L0_st p s).2 Kx Kr = spec_HeapOk_L0_K (p.1) (p.2.1) (p.2.2.1) (p.2.2.2.1) (p.2.2.2.2) s (fun s => again (spec_HeapOk_L0_st p s).1 (spec_HeapOk_L0_st p s).2) (fun t => Kx (spec_HeapOk_L0_so p t).1 (spec_HeapOk_L0_so p t).2) (fun k => Kr (spec_HeapOk_L0_sr p k).1 (spec_HeapOk_L0_sr p k).2) := by kernel_rfl
theorem spec_HeapOk_L0_ok (hb : LoopsOk Try.prog rowU (envOf 132 4 [(131, spec_l23Owners_C), (116, spec_MemoryOk_C), (202, spec_l23Spans_C), (203, spec_l23In_C)] [(0, spec_HeapOk_L0_H)]) (loopAt (codeP 132) 0)) : LoopOk Try.prog rowU (envOf 132 4 [(131, spec_l23Owners_C), (116, spec_MemoryOk_C), (202, spec_l23Spans_C), (203, spec_l23In_C)] [(0, spec_HeapOk_L0_H)]) 0 (loopAt (codeP 132) 0) spec_HeapOk_L0_H :=
  loopR_ok tagOk mixed envNl (envT (TabOk.cons spec_l23Owners_ok (TabOk.cons spec_MemoryOk_ok (TabOk.cons spec_l23Spans_ok (TabOk.cons spec_l23In_ok TabOk.nil))))) hb spec_HeapOk_L0_st spec_HeapOk_L0_D_ok fun p s ρ A Kx Kr => (spec_HeapOk_L0_nf p s ρ A Kx Kr).trans (spec_HeapOk_L0_bind (p.1) (p.2.1) (p.2.2.1) (p.2.2.2.1) (p.2.2.2.2) s _ _ _)
noncomputable def spec_HeapOk_K (x0 : GHeap) {ρ : Type} (K : Bool → Option ρ) : Option ρ :=
  Option.bind (spec_MemoryOk x0.mem) fun r1 =>
  cond ((!r1) == false)
    (Option.bind (spec_l23Spans x0.live) fun r2 =>
    cond ((!r2) == false)
      (Option.bind (spec_l23Spans x0.waits) fun r3 =>
      cond (!r3)
        (K false)
        (Option.bind (spec_l23Owners x0) fun r4 =>
        Option.bind (runL (spec_HeapOk_L0_step x0.mem.words x0.mem.gone x0.live x0.waits r4) 0) fun ot6 => sumK ot6
          (fun t6 => K true)
          (fun k7 => K false)))
      (K false))
    (K false)
noncomputable def spec_HeapOk (x0 : GHeap) : Option (Bool) := spec_HeapOk_K x0 some
theorem spec_HeapOk_bind (x0 : GHeap) {ρ : Type} (K : Bool → Option ρ) : spec_HeapOk_K x0 K = (spec_HeapOk x0).bind K := by
  simp only [spec_HeapOk, spec_HeapOk_K, Option.bind_assoc, Option.bind_some, Option.bind_none, cond_bind, sumK_bind]
noncomputable def spec_HeapOk_E : Env Row := envN false 132 4 [(131, spec_l23Owners_C), (116, spec_MemoryOk_C), (202, spec_l23Spans_C), (203, spec_l23In_C)] [(0, spec_HeapOk_L0_H)]
theorem spec_HeapOk_nf (x0 : GHeap) (ρ : Type) (K : V → Heap Row → Option ρ) : evBody rowU spec_HeapOk_E (bodyC 132) [.a [.sl 0 0, .sl 1 0, .sl 2 0, .sl 3 0]] [⟨.row ⟨.word, x0.mem.words⟩, 0, 1⟩, ⟨.row ⟨.bool, x0.mem.gone⟩, 0, 1⟩, ⟨.row ⟨.span, x0.live⟩, 0, 1⟩, ⟨.row ⟨.span, x0.waits⟩, 0, 1⟩] K = spec_HeapOk_K x0 (fun r => K (.c (.bool r)) [⟨.row ⟨.word, x0.mem.words⟩, 0, 1⟩, ⟨.row ⟨.bool, x0.mem.gone⟩, 0, 1⟩, ⟨.row ⟨.span, x0.live⟩, 0, 1⟩, ⟨.row ⟨.span, x0.waits⟩, 0, 1⟩]) := by kernel_rfl
def spec_HeapOk_D : List V → Heap Row → Option (GHeap)
  | [.a (.sl 0 0 :: .sl 1 0 :: .sl 2 0 :: .sl 3 0 :: [])], [⟨.row ⟨.word, v1⟩, 0, 1⟩, ⟨.row ⟨.bool, v2⟩, 0, 1⟩, ⟨.row ⟨.span, v3⟩, 0, 1⟩, ⟨.row ⟨.span, v4⟩, 0, 1⟩] => some (⟨⟨v1, v2⟩, v3, v4⟩)
  | _, _ => none
theorem spec_HeapOk_D_ok {vs : List V} {W : Heap Row} {a : GHeap} (h : spec_HeapOk_D vs W = some a) : vs = [.a [.sl 0 0, .sl 1 0, .sl 2 0, .sl 3 0]] ∧ W = [⟨.row ⟨.word, (a).mem.words⟩, 0, 1⟩, ⟨.row ⟨.bool, (a).mem.gone⟩, 0, 1⟩, ⟨.row ⟨.span, (a).live⟩, 0, 1⟩, ⟨.row ⟨.span, (a).waits⟩, 0, 1⟩] := by
  unfold spec_HeapOk_D at h
  split at h
  · simp at h; subst h; exact ⟨rfl, rfl⟩
  · simp at h
noncomputable def spec_HeapOk_C : Callee Row := ⟨[(false, 0), (false, 0), (false, 0), (false, 0)], fun _ vs W K => (spec_HeapOk_D vs W).bind fun a => (spec_HeapOk a).bind fun r => K (.c (.bool r)) [⟨.row ⟨.word, (a).mem.words⟩, 0, 1⟩, ⟨.row ⟨.bool, (a).mem.gone⟩, 0, 1⟩, ⟨.row ⟨.span, (a).live⟩, 0, 1⟩, ⟨.row ⟨.span, (a).waits⟩, 0, 1⟩]⟩
theorem spec_HeapOk_ok : CalleeOk Try.prog rowU 132 spec_HeapOk_C := by
  refine calleeP (nl := false) (m0 := 4) (T := [(131, spec_l23Owners_C), (116, spec_MemoryOk_C), (202, spec_l23Spans_C), (203, spec_l23In_C)]) (H := [(0, spec_HeapOk_L0_H)]) (TabOk.cons spec_l23Owners_ok (TabOk.cons spec_MemoryOk_ok (TabOk.cons spec_l23Spans_ok (TabOk.cons spec_l23In_ok TabOk.nil)))) (by kernel_rfl) (by kernel_rfl) (fun p hp hb => by
    simp only [List.mem_cons, List.not_mem_nil, or_false] at hp
    subst hp
    exact spec_HeapOk_L0_ok hb) fun ρ vs W K r h => ?_
  obtain ⟨a, ha, h1⟩ := Option.bind_eq_some_iff.1 h
  clear h
  obtain ⟨rfl, rfl⟩ := spec_HeapOk_D_ok ha
  obtain ⟨q, hq, h2⟩ := Option.bind_eq_some_iff.1 h1
  exact ⟨_, _, h2, (spec_HeapOk_nf a _ _).trans ((spec_HeapOk_bind a _).trans (by rw [hq]; rfl))⟩
end Go.Eng
