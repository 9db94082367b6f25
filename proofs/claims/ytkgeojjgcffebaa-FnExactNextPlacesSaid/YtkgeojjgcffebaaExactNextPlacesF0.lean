/- Functions of the program, as the evaluator tells them: printed by a program of ours. -/
import Derived.Test.YtkgeojjgcffebaaExactNextPlacesFS
set_option linter.unusedVariables false
set_option linter.unusedSimpArgs false
set_option maxRecDepth 20000
namespace Go.Eng
open Go.Proofs
/-! loop.example/g00249/laws.szInsS -/
def laws_szInsS_K (x0 : List GIns) (x1 : Int) {ρ : Type} (K : Int → Option ρ) : Option ρ :=
  cond (decide ((w64 (x1 - (((x0.length : Nat) : Int)))) < 0))
    (K (-1))
    (K (w64 (x1 - (((x0.length : Nat) : Int)))))
def laws_szInsS (x0 : List GIns) (x1 : Int) : Option (Int) := laws_szInsS_K x0 x1 some
theorem laws_szInsS_bind (x0 : List GIns) (x1 : Int) {ρ : Type} (K : Int → Option ρ) : laws_szInsS_K x0 x1 K = (laws_szInsS x0 x1).bind K := by
  simp only [laws_szInsS, laws_szInsS_K, Option.bind_assoc, Option.bind_some, Option.bind_none, cond_bind, sumK_bind]
noncomputable def laws_szInsS_E : Env Row := envN false 68 1 [] []
theorem laws_szInsS_nf (x0 : List GIns) (x1 : Int) (ρ : Type) (K : V → Heap Row → Option ρ) : evBody rowU laws_szInsS_E (bodyC 68) [.c (.sl 0 0), .c (.int .i64 x1)] [⟨.row ⟨.ins, x0⟩, 0, 1⟩] K = laws_szInsS_K x0 x1 (fun r => K (.c (.int .i64 r)) [⟨.row ⟨.ins, x0⟩, 0, 1⟩]) := by kernel_rfl
def laws_szInsS_D : List V → Heap Row → Option (List GIns × Int)
  | [.c (.sl 0 0), .c (.int .i64 v1)], [⟨.row ⟨.ins, v2⟩, 0, 1⟩] => some (v2, v1)
  | _, _ => none
theorem laws_szInsS_D_ok {vs : List V} {W : Heap Row} {a : List GIns × Int} (h : laws_szInsS_D vs W = some a) : vs = [.c (.sl 0 0), .c (.int .i64 (a.2))] ∧ W = [⟨.row ⟨.ins, a.1⟩, 0, 1⟩] := by
  unfold laws_szInsS_D at h
  split at h
  · simp at h; subst h; exact ⟨rfl, rfl⟩
  · simp at h
def laws_szInsS_C : Callee Row := ⟨[(false, 0)], fun _ vs W K => (laws_szInsS_D vs W).bind fun a => (laws_szInsS a.1 a.2).bind fun r => K (.c (.int .i64 r)) [⟨.row ⟨.ins, a.1⟩, 0, 1⟩]⟩
theorem laws_szInsS_ok : CalleeOk Try.prog rowU 68 laws_szInsS_C := by
  refine calleeP (nl := false) (m0 := 1) (T := []) (H := []) TabOk.nil (by kernel_rfl) (by kernel_rfl) (fun p hp => nomatch hp) fun ρ vs W K r h => ?_
  obtain ⟨a, ha, h1⟩ := Option.bind_eq_some_iff.1 h
  clear h
  obtain ⟨rfl, rfl⟩ := laws_szInsS_D_ok ha
  obtain ⟨q, hq, h2⟩ := Option.bind_eq_some_iff.1 h1
  exact ⟨_, _, h2, (laws_szInsS_nf (a.1) (a.2) _ _).trans ((laws_szInsS_bind (a.1) (a.2) _).trans (by rw [hq]; rfl))⟩
/-! loop.example/g00249/laws.toIns -/
def laws_toIns_K (x0 : GIns) {ρ : Type} (K : GIns → Option ρ) : Option ρ :=
  K x0
def laws_toIns (x0 : GIns) : Option (GIns) := laws_toIns_K x0 some
theorem laws_toIns_bind (x0 : GIns) {ρ : Type} (K : GIns → Option ρ) : laws_toIns_K x0 K = (laws_toIns x0).bind K := by
  simp only [laws_toIns, laws_toIns_K, Option.bind_assoc, Option.bind_some, Option.bind_none, cond_bind, sumK_bind]
noncomputable def laws_toIns_E : Env Row := envN false 161 0 [] []
theorem laws_toIns_nf (x0 : GIns) (ρ : Type) (K : V → Heap Row → Option ρ) : evBody rowU laws_toIns_E (bodyC 161) [.a [.int .i64 x0.op, .int .i64 x0.r, .int .i64 x0.a, .int .i64 x0.b, .int .i64 x0.n]] [] K = laws_toIns_K x0 (fun r => K (.a [.int .i64 r.op, .int .i64 r.r, .int .i64 r.a, .int .i64 r.b, .int .i64 r.n]) []) := by kernel_rfl
def laws_toIns_D : List V → Heap Row → Option (GIns)
  | [.a (.int .i64 v1 :: .int .i64 v2 :: .int .i64 v3 :: .int .i64 v4 :: .int .i64 v5 :: [])], [] => some (⟨v1, v2, v3, v4, v5⟩)
  | _, _ => none
theorem laws_toIns_D_ok {vs : List V} {W : Heap Row} {a : GIns} (h : laws_toIns_D vs W = some a) : vs = [.a [.int .i64 (a).op, .int .i64 (a).r, .int .i64 (a).a, .int .i64 (a).b, .int .i64 (a).n]] ∧ W = [] := by
  unfold laws_toIns_D at h
  split at h
  · simp at h; subst h; exact ⟨rfl, rfl⟩
  · simp at h
def laws_toIns_C : Callee Row := ⟨[], fun _ vs W K => (laws_toIns_D vs W).bind fun a => (laws_toIns a).bind fun r => K (.a [.int .i64 r.op, .int .i64 r.r, .int .i64 r.a, .int .i64 r.b, .int .i64 r.n]) []⟩
theorem laws_toIns_ok : CalleeOk Try.prog rowU 161 laws_toIns_C := by
  refine calleeP (nl := false) (m0 := 0) (T := []) (H := []) TabOk.nil (by kernel_rfl) (by kernel_rfl) (fun p hp => nomatch hp) fun ρ vs W K r h => ?_
  obtain ⟨a, ha, h1⟩ := Option.bind_eq_some_iff.1 h
  clear h
  obtain ⟨rfl, rfl⟩ := laws_toIns_D_ok ha
  obtain ⟨q, hq, h2⟩ := Option.bind_eq_some_iff.1 h1
  exact ⟨_, _, h2, (laws_toIns_nf a _ _).trans ((laws_toIns_bind a _).trans (by rw [hq]; rfl))⟩
/-! loop.example/g00249/laws.toInsS -/
noncomputable def laws_toInsS_L0_K (l0 : List GIns) (l1 : List GIns) (n2 : Int) {ρ : Type} (A : List GIns × Int → Option ρ) (X : List GIns → Option ρ) (R : Unit → Option ρ) : Option ρ :=
  cond (decide (n2 < (((l0.length : Nat) : Int))))
    (cond (decide (0 ≤ n2)) (cond (decide (n2 < (((l0.length : Nat) : Int)))) (Option.bind (laws_toIns (List.getD l0 (n2.toNat) (default))) fun r1 =>
    cond (decide (0 ≤ n2)) (cond (decide (n2 < (((l1.length : Nat) : Int)))) (A (List.set l1 (n2.toNat) r1, w64 (n2 + 1))) none) none) none) none)
    (X l1)
noncomputable def laws_toInsS_L0_step (l0 : List GIns) (s : List GIns × Int) : Option (Rnd (List GIns × Int) (List GIns) (Unit)) := laws_toInsS_L0_K l0 (s.1) (s.2) (fun s => some (.again s)) (fun t => some (.exit t)) (fun k => some (.ret k))
theorem laws_toInsS_L0_bind (l0 : List GIns) (s : List GIns × Int) {ρ : Type} (A : List GIns × Int → Option ρ) (X : List GIns → Option ρ) (R : Unit → Option ρ) : laws_toInsS_L0_K l0 (s.1) (s.2) A X R = (laws_toInsS_L0_step l0 s).bind (rndE A X R) := by
  simp only [laws_toInsS_L0_step, laws_toInsS_L0_K, Option.bind_assoc, Option.bind_some, Option.bind_none, cond_bind, sumK_bind, rndE_again, rndE_exit, rndE_ret]
def laws_toInsS_L0_st (p : List GIns) (s : List GIns × Int) : List V × Heap Row := ([.c (.sl 0 0), .c (.sl 1 0), .c (.int .i64 (s.2))], [⟨.row ⟨.ins, p⟩, 0, 1⟩, ⟨.row ⟨.ins, s.1⟩, 0, 2⟩])
def laws_toInsS_L0_so (p : List GIns) (t : List GIns) : List V × Heap Row := ([.c (.sl 1 0)], [⟨.row ⟨.ins, p⟩, 0, 1⟩, ⟨.row ⟨.ins, t⟩, 0, 2⟩])
def laws_toInsS_L0_D : List V → Heap Row → Option ((List GIns) × (List GIns × Int))
  | [.c (.sl 0 0), .c (.sl 1 0), .c (.int .i64 v1)], [⟨.row ⟨.ins, v2⟩, 0, 1⟩, ⟨.row ⟨.ins, v3⟩, 0, 2⟩] => some ((v2), (v3, v1))
  | _, _ => none
theorem laws_toInsS_L0_D_ok (vs : List V) (L : Heap Row) (p : List GIns) (s : List GIns × Int) (h : laws_toInsS_L0_D vs L = some (p, s)) : laws_toInsS_L0_st p s = (vs, L) := by
  unfold laws_toInsS_L0_D at h
  split at h
  · simp at h; obtain ⟨rfl, rfl⟩ := h; rfl
  · simp at h
noncomputable def laws_toInsS_L0_H : LoopH Row := loopX [0, 3, 4] [3] laws_toInsS_L0_D (fun p => laws_toInsS_L0_step p) laws_toInsS_L0_so
theorem laws_toInsS_L0_nf (p : List GIns) (s : List GIns × Int) (ρ : Type) (again Kx Kr : List V → Heap Row → Option ρ) : evRound rowU (envOf 70 1 [(161, laws_toIns_C)] [(0, laws_toInsS_L0_H)]) 0 laws_toInsS_L0_H (loopC 70 0) again (laws_toInsS_L0_st p s).1 (laws_toInsS_L0_st p s).2 Kx Kr = laws_toInsS_L0_K p (s.1) (s.2) (fun s => again (laws_toInsS_L0_st p s).1 (laws_toInsS_L0_st p s).2) (fun t => Kx (laws_toInsS_L0_so p t).1 (laws_toInsS_L0_so p t).2) (fun _ => none) := by kernel_rfl
theorem laws_toInsS_L0_ok (hb : LoopsOk Try.prog rowU (envOf 70 1 [(161, laws_toIns_C)] [(0, laws_toInsS_L0_H)]) (loopAt (codeP 70) 0)) : LoopOk Try.prog rowU (envOf 70 1 [(161, laws_toIns_C)] [(0, laws_toInsS_L0_H)]) 0 (loopAt (codeP 70) 0) laws_toInsS_L0_H :=
  loopX_ok tagOk mixed envNl (envT (TabOk.cons laws_toIns_ok TabOk.nil)) hb laws_toInsS_L0_st laws_toInsS_L0_D_ok fun p s ρ A Kx Kr => (laws_toInsS_L0_nf p s ρ A Kx Kr).trans (laws_toInsS_L0_bind p s _ _ _)
noncomputable def laws_toInsS_K (x0 : List GIns) {ρ : Type} (K : List GIns → Option ρ) : Option ρ :=
  cond (decide (0 ≤ (((x0.length : Nat) : Int)))) (cond (decide (((((x0.length : Nat) : Int)) * 40) ≤ 281474976710656)) (Option.bind (runX (laws_toInsS_L0_step x0) (List.replicate ((((x0.length : Nat) : Int)).toNat) (⟨0, 0, 0, 0, 0⟩ : GIns), 0)) fun t2 =>
  K t2) none) none
noncomputable def laws_toInsS (x0 : List GIns) : Option (List GIns) := laws_toInsS_K x0 some
theorem laws_toInsS_bind (x0 : List GIns) {ρ : Type} (K : List GIns → Option ρ) : laws_toInsS_K x0 K = (laws_toInsS x0).bind K := by
  simp only [laws_toInsS, laws_toInsS_K, Option.bind_assoc, Option.bind_some, Option.bind_none, cond_bind, sumK_bind]
noncomputable def laws_toInsS_E : Env Row := envN false 70 1 [(161, laws_toIns_C)] [(0, laws_toInsS_L0_H)]
theorem laws_toInsS_nf (x0 : List GIns) (ρ : Type) (K : V → Heap Row → Option ρ) : evBody rowU laws_toInsS_E (bodyC 70) [.c (.sl 0 0)] [⟨.row ⟨.ins, x0⟩, 0, 1⟩] K = laws_toInsS_K x0 (fun r => K (.c (.sl 1 0)) [⟨.row ⟨.ins, x0⟩, 0, 1⟩, ⟨.row ⟨.ins, r⟩, 0, 2⟩]) := by kernel_rfl
def laws_toInsS_D : List V → Heap Row → Option (List GIns)
  | [.c (.sl 0 0)], [⟨.row ⟨.ins, v1⟩, 0, 1⟩] => some (v1)
  | _, _ => none
theorem laws_toInsS_D_ok {vs : List V} {W : Heap Row} {a : List GIns} (h : laws_toInsS_D vs W = some a) : vs = [.c (.sl 0 0)] ∧ W = [⟨.row ⟨.ins, a⟩, 0, 1⟩] := by
  unfold laws_toInsS_D at h
  split at h
  · simp at h; subst h; exact ⟨rfl, rfl⟩
  · simp at h
noncomputable def laws_toInsS_C : Callee Row := ⟨[(false, 0)], fun _ vs W K => (laws_toInsS_D vs W).bind fun a => (laws_toInsS a).bind fun r => K (.c (.sl 1 0)) [⟨.row ⟨.ins, a⟩, 0, 1⟩, ⟨.row ⟨.ins, r⟩, 0, 2⟩]⟩
theorem laws_toInsS_ok : CalleeOk Try.prog rowU 70 laws_toInsS_C := by
  refine calleeP (nl := false) (m0 := 1) (T := [(161, laws_toIns_C)]) (H := [(0, laws_toInsS_L0_H)]) (TabOk.cons laws_toIns_ok TabOk.nil) (by kernel_rfl) (by kernel_rfl) (fun p hp hb => by
    simp only [List.mem_cons, List.not_mem_nil, or_false] at hp
    subst hp
    exact laws_toInsS_L0_ok hb) fun ρ vs W K r h => ?_
  obtain ⟨a, ha, h1⟩ := Option.bind_eq_some_iff.1 h
  clear h
  obtain ⟨rfl, rfl⟩ := laws_toInsS_D_ok ha
  obtain ⟨q, hq, h2⟩ := Option.bind_eq_some_iff.1 h1
  exact ⟨_, _, h2, (laws_toInsS_nf a _ _).trans ((laws_toInsS_bind a _).trans (by rw [hq]; rfl))⟩
/-! loop.example/g00249/spec.l1In -/
def spec_l1In_K (x0 : Int) (x1 : Int) (x2 : Int) {ρ : Type} (K : Bool → Option ρ) : Option ρ :=
  cond ((decide (x0 ≥ x1)) == true)
    (K (decide (x0 ≤ x2)))
    (K false)
def spec_l1In (x0 : Int) (x1 : Int) (x2 : Int) : Option (Bool) := spec_l1In_K x0 x1 x2 some
theorem spec_l1In_bind (x0 : Int) (x1 : Int) (x2 : Int) {ρ : Type} (K : Bool → Option ρ) : spec_l1In_K x0 x1 x2 K = (spec_l1In x0 x1 x2).bind K := by
  simp only [spec_l1In, spec_l1In_K, Option.bind_assoc, Option.bind_some, Option.bind_none, cond_bind, sumK_bind]
noncomputable def spec_l1In_E : Env Row := envN false 160 0 [] []
theorem spec_l1In_nf (x0 : Int) (x1 : Int) (x2 : Int) (ρ : Type) (K : V → Heap Row → Option ρ) : evBody rowU spec_l1In_E (bodyC 160) [.c (.int .i64 x0), .c (.int .i64 x1), .c (.int .i64 x2)] [] K = spec_l1In_K x0 x1 x2 (fun r => K (.c (.bool r)) []) := by kernel_rfl
def spec_l1In_D : List V → Heap Row → Option (Int × Int × Int)
  | [.c (.int .i64 v1), .c (.int .i64 v2), .c (.int .i64 v3)], [] => some (v1, v2, v3)
  | _, _ => none
theorem spec_l1In_D_ok {vs : List V} {W : Heap Row} {a : Int × Int × Int} (h : spec_l1In_D vs W = some a) : vs = [.c (.int .i64 (a.1)), .c (.int .i64 (a.2.1)), .c (.int .i64 (a.2.2))] ∧ W = [] := by
  unfold spec_l1In_D at h
  split at h
  · simp at h; subst h; exact ⟨rfl, rfl⟩
  · simp at h
def spec_l1In_C : Callee Row := ⟨[], fun _ vs W K => (spec_l1In_D vs W).bind fun a => (spec_l1In a.1 a.2.1 a.2.2).bind fun r => K (.c (.bool r)) []⟩
theorem spec_l1In_ok : CalleeOk Try.prog rowU 160 spec_l1In_C := by
  refine calleeP (nl := false) (m0 := 0) (T := []) (H := []) TabOk.nil (by kernel_rfl) (by kernel_rfl) (fun p hp => nomatch hp) fun ρ vs W K r h => ?_
  obtain ⟨a, ha, h1⟩ := Option.bind_eq_some_iff.1 h
  clear h
  obtain ⟨rfl, rfl⟩ := spec_l1In_D_ok ha
  obtain ⟨q, hq, h2⟩ := Option.bind_eq_some_iff.1 h1
  exact ⟨_, _, h2, (spec_l1In_nf (a.1) (a.2.1) (a.2.2) _ _).trans ((spec_l1In_bind (a.1) (a.2.1) (a.2.2) _).trans (by rw [hq]; rfl))⟩
/-! loop.example/g00249/spec.l6Has -/
def spec_l6Has_K (x0 : Int) {ρ : Type} (K : Int → Option ρ) : Option ρ :=
  Option.bind (spec_l1In x0 1 15) fun r1 =>
  cond (!r1)
    (K 0)
    (cond (decide (0 ≤ x0)) (cond (decide (x0 < 16)) (K (List.getD [0, 9, 7, 3, 7, 7, 15, 7, 7, 3, 11, 14, 3, 10, 2, 0] (x0.toNat) 0)) none) none)
def spec_l6Has (x0 : Int) : Option (Int) := spec_l6Has_K x0 some
theorem spec_l6Has_bind (x0 : Int) {ρ : Type} (K : Int → Option ρ) : spec_l6Has_K x0 K = (spec_l6Has x0).bind K := by
  simp only [spec_l6Has, spec_l6Has_K, Option.bind_assoc, Option.bind_some, Option.bind_none, cond_bind, sumK_bind]
noncomputable def spec_l6Has_E : Env Row := envN false 277 0 [(160, spec_l1In_C)] []
theorem spec_l6Has_nf (x0 : Int) (ρ : Type) (K : V → Heap Row → Option ρ) : evBody rowU spec_l6Has_E (bodyC 277) [.c (.int .i64 x0)] [] K = spec_l6Has_K x0 (fun r => K (.c (.int .i64 r)) []) := by kernel_rfl
def spec_l6Has_D : List V → Heap Row → Option (Int)
  | [.c (.int .i64 v1)], [] => some (v1)
  | _, _ => none
theorem spec_l6Has_D_ok {vs : List V} {W : Heap Row} {a : Int} (h : spec_l6Has_D vs W = some a) : vs = [.c (.int .i64 (a))] ∧ W = [] := by
  unfold spec_l6Has_D at h
  split at h
  · simp at h; subst h; exact ⟨rfl, rfl⟩
  · simp at h
def spec_l6Has_C : Callee Row := ⟨[], fun _ vs W K => (spec_l6Has_D vs W).bind fun a => (spec_l6Has a).bind fun r => K (.c (.int .i64 r)) []⟩
theorem spec_l6Has_ok : CalleeOk Try.prog rowU 277 spec_l6Has_C := by
  refine calleeP (nl := false) (m0 := 0) (T := [(160, spec_l1In_C)]) (H := []) (TabOk.cons spec_l1In_ok TabOk.nil) (by kernel_rfl) (by kernel_rfl) (fun p hp => nomatch hp) fun ρ vs W K r h => ?_
  obtain ⟨a, ha, h1⟩ := Option.bind_eq_some_iff.1 h
  clear h
  obtain ⟨rfl, rfl⟩ := spec_l6Has_D_ok ha
  obtain ⟨q, hq, h2⟩ := Option.bind_eq_some_iff.1 h1
  exact ⟨_, _, h2, (spec_l6Has_nf a _ _).trans ((spec_l6Has_bind a _).trans (by rw [hq]; rfl))⟩
/-! loop.example/g00249/spec.l6Field -/
def spec_l6Field_K (x0 : Int) (x1 : Bool) {ρ : Type} (K : Bool → Option ρ) : Option ρ :=
  Option.bind (spec_l1In x0 0 7) fun r1 =>
  cond (r1 == true)
    (cond (x1 == false)
      (K (x0 == 0))
      (K true))
    (K false)
def spec_l6Field (x0 : Int) (x1 : Bool) : Option (Bool) := spec_l6Field_K x0 x1 some
theorem spec_l6Field_bind (x0 : Int) (x1 : Bool) {ρ : Type} (K : Bool → Option ρ) : spec_l6Field_K x0 x1 K = (spec_l6Field x0 x1).bind K := by
  simp only [spec_l6Field, spec_l6Field_K, Option.bind_assoc, Option.bind_some, Option.bind_none, cond_bind, sumK_bind]
noncomputable def spec_l6Field_E : Env Row := envN false 278 0 [(160, spec_l1In_C)] []
theorem spec_l6Field_nf (x0 : Int) (x1 : Bool) (ρ : Type) (K : V → Heap Row → Option ρ) : evBody rowU spec_l6Field_E (bodyC 278) [.c (.int .i64 x0), .c (.bool x1)] [] K = spec_l6Field_K x0 x1 (fun r => K (.c (.bool r)) []) := by kernel_rfl
def spec_l6Field_D : List V → Heap Row → Option (Int × Bool)
  | [.c (.int .i64 v1), .c (.bool v2)], [] => some (v1, v2)
  | _, _ => none
theorem spec_l6Field_D_ok {vs : List V} {W : Heap Row} {a : Int × Bool} (h : spec_l6Field_D vs W = some a) : vs = [.c (.int .i64 (a.1)), .c (.bool (a.2))] ∧ W = [] := by
  unfold spec_l6Field_D at h
  split at h
  · simp at h; subst h; exact ⟨rfl, rfl⟩
  · simp at h
def spec_l6Field_C : Callee Row := ⟨[], fun _ vs W K => (spec_l6Field_D vs W).bind fun a => (spec_l6Field a.1 a.2).bind fun r => K (.c (.bool r)) []⟩
theorem spec_l6Field_ok : CalleeOk Try.prog rowU 278 spec_l6Field_C := by
  refine calleeP (nl := false) (m0 := 0) (T := [(160, spec_l1In_C)]) (H := []) (TabOk.cons spec_l1In_ok TabOk.nil) (by kernel_rfl) (by kernel_rfl) (fun p hp => nomatch hp) fun ρ vs W K r h => ?_
  obtain ⟨a, ha, h1⟩ := Option.bind_eq_some_iff.1 h
  clear h
  obtain ⟨rfl, rfl⟩ := spec_l6Field_D_ok ha
  obtain ⟨q, hq, h2⟩ := Option.bind_eq_some_iff.1 h1
  exact ⟨_, _, h2, (spec_l6Field_nf (a.1) (a.2) _ _).trans ((spec_l6Field_bind (a.1) (a.2) _).trans (by rw [hq]; rfl))⟩
/-! loop.example/g00249/spec.InsOk -/
def spec_InsOk_K (x0 : GIns) {ρ : Type} (K : Bool → Option ρ) : Option ρ :=
  Option.bind (spec_l6Has x0.op) fun r1 =>
  Option.bind (spec_l1In x0.op 1 15) fun r2 =>
  cond (r2 == true)
    (Option.bind (spec_l6Field x0.r ((bits .and .i64 r1 1) != 0)) fun r3 =>
    cond (r3 == true)
      (Option.bind (spec_l6Field x0.a ((bits .and .i64 r1 2) != 0)) fun r4 =>
      cond (r4 == true)
        (Option.bind (spec_l6Field x0.b ((bits .and .i64 r1 4) != 0)) fun r5 =>
        cond (r5 == true)
          (Option.bind (spec_l1In x0.n (-128) 127) fun r6 =>
          cond (r6 == true)
            (cond (((bits .and .i64 r1 8) != 0) == false)
              (K (x0.n == 0))
              (K true))
            (K false))
          (K false))
        (K false))
      (K false))
    (K false)
def spec_InsOk (x0 : GIns) : Option (Bool) := spec_InsOk_K x0 some
theorem spec_InsOk_bind (x0 : GIns) {ρ : Type} (K : Bool → Option ρ) : spec_InsOk_K x0 K = (spec_InsOk x0).bind K := by
  simp only [spec_InsOk, spec_InsOk_K, Option.bind_assoc, Option.bind_some, Option.bind_none, cond_bind, sumK_bind]
noncomputable def spec_InsOk_E : Env Row := envN false 225 0 [(160, spec_l1In_C), (277, spec_l6Has_C), (278, spec_l6Field_C)] []
theorem spec_InsOk_nf (x0 : GIns) (ρ : Type) (K : V → Heap Row → Option ρ) : evBody rowU spec_InsOk_E (bodyC 225) [.a [.int .i64 x0.op, .int .i64 x0.r, .int .i64 x0.a, .int .i64 x0.b, .int .i64 x0.n]] [] K = spec_InsOk_K x0 (fun r => K (.c (.bool r)) []) := by kernel_rfl
def spec_InsOk_D : List V → Heap Row → Option (GIns)
  | [.a (.int .i64 v1 :: .int .i64 v2 :: .int .i64 v3 :: .int .i64 v4 :: .int .i64 v5 :: [])], [] => some (⟨v1, v2, v3, v4, v5⟩)
  | _, _ => none
theorem spec_InsOk_D_ok {vs : List V} {W : Heap Row} {a : GIns} (h : spec_InsOk_D vs W = some a) : vs = [.a [.int .i64 (a).op, .int .i64 (a).r, .int .i64 (a).a, .int .i64 (a).b, .int .i64 (a).n]] ∧ W = [] := by
  unfold spec_InsOk_D at h
  split at h
  · simp at h; subst h; exact ⟨rfl, rfl⟩
  · simp at h
def spec_InsOk_C : Callee Row := ⟨[], fun _ vs W K => (spec_InsOk_D vs W).bind fun a => (spec_InsOk a).bind fun r => K (.c (.bool r)) []⟩
theorem spec_InsOk_ok : CalleeOk Try.prog rowU 225 spec_InsOk_C := by
  refine calleeP (nl := false) (m0 := 0) (T := [(160, spec_l1In_C), (277, spec_l6Has_C), (278, spec_l6Field_C)]) (H := []) (TabOk.cons spec_l1In_ok (TabOk.cons spec_l6Has_ok (TabOk.cons spec_l6Field_ok TabOk.nil))) (by kernel_rfl) (by kernel_rfl) (fun p hp => nomatch hp) fun ρ vs W K r h => ?_
  obtain ⟨a, ha, h1⟩ := Option.bind_eq_some_iff.1 h
  clear h
  obtain ⟨rfl, rfl⟩ := spec_InsOk_D_ok ha
  obtain ⟨q, hq, h2⟩ := Option.bind_eq_some_iff.1 h1
  exact ⟨_, _, h2, (spec_InsOk_nf a _ _).trans ((spec_InsOk_bind a _).trans (by rw [hq]; rfl))⟩
/-! loop.example/g00249/spec.CodeOk -/
noncomputable def spec_CodeOk_L0_K (l0 : List GIns) (n1 : Int) {ρ : Type} (A : Int → Option ρ) (X : Unit → Option ρ) (R : Unit → Option ρ) : Option ρ :=
  cond (decide (n1 < (((l0.length : Nat) : Int))))
    (cond (decide (0 ≤ n1)) (cond (decide (n1 < (((l0.length : Nat) : Int)))) (Option.bind (spec_InsOk (List.getD l0 (n1.toNat) (default))) fun r1 =>
    cond (!r1)
      (R ())
      (A (w64 (n1 + 1)))) none) none)
    (X ())
noncomputable def spec_CodeOk_L0_step (l0 : List GIns) (s : Int) : Option (Rnd (Int) (Unit) (Unit)) := spec_CodeOk_L0_K l0 s (fun s => some (.again s)) (fun t => some (.exit t)) (fun k => some (.ret k))
theorem spec_CodeOk_L0_bind (l0 : List GIns) (s : Int) {ρ : Type} (A : Int → Option ρ) (X : Unit → Option ρ) (R : Unit → Option ρ) : spec_CodeOk_L0_K l0 s A X R = (spec_CodeOk_L0_step l0 s).bind (rndE A X R) := by
  simp only [spec_CodeOk_L0_step, spec_CodeOk_L0_K, Option.bind_assoc, Option.bind_some, Option.bind_none, cond_bind, sumK_bind, rndE_again, rndE_exit, rndE_ret]
def spec_CodeOk_L0_st (p : List GIns) (s : Int) : List V × Heap Row := ([.c (.sl 0 0), .c (.int .i64 (s))], [⟨.row ⟨.ins, p⟩, 0, 1⟩])
def spec_CodeOk_L0_so (p : List GIns) (t : Unit) : List V × Heap Row := ([.c (.sl 0 0)], [⟨.row ⟨.ins, p⟩, 0, 1⟩])
def spec_CodeOk_L0_sr (p : List GIns) (k : Unit) : List V × Heap Row := ([.c (.bool false)], [⟨.row ⟨.ins, p⟩, 0, 1⟩])
def spec_CodeOk_L0_D : List V → Heap Row → Option ((List GIns) × (Int))
  | [.c (.sl 0 0), .c (.int .i64 v1)], [⟨.row ⟨.ins, v2⟩, 0, 1⟩] => some ((v2), (v1))
  | _, _ => none
theorem spec_CodeOk_L0_D_ok (vs : List V) (L : Heap Row) (p : List GIns) (s : Int) (h : spec_CodeOk_L0_D vs L = some (p, s)) : spec_CodeOk_L0_st p s = (vs, L) := by
  unfold spec_CodeOk_L0_D at h
  split at h
  · simp at h; obtain ⟨rfl, rfl⟩ := h; rfl
  · simp at h
noncomputable def spec_CodeOk_L0_H : LoopH Row := loopR [0, 3] [0] spec_CodeOk_L0_D (fun p => spec_CodeOk_L0_step p) spec_CodeOk_L0_so spec_CodeOk_L0_sr
theorem spec_CodeOk_L0_nf (p : List GIns) (s : Int) (ρ : Type) (again Kx Kr : List V → Heap Row → Option ρ) : evRound rowU (envOf 159 1 [(160, spec_l1In_C), (225, spec_InsOk_C)] [(0, spec_CodeOk_L0_H)]) 0 spec_CodeOk_L0_H (loopC 159 0) again (spec_CodeOk_L0_st p s).1 (spec_CodeOk_L0_st p s).2 Kx Kr = spec_CodeOk_L0_K p s (fun s => again (spec_CodeOk_L0_st p s).1 (spec_CodeOk_L0_st p s).2) (fun t => Kx (spec_CodeOk_L0_so p t).1 (spec_CodeOk_L0_so p t).2) (fun k => Kr (spec_CodeOk_L0_sr p k).1 (spec_CodeOk_L0_sr p k).2) := by kernel_rfl
theorem spec_CodeOk_L0_ok (hb : LoopsOk Try.prog rowU (envOf 159 1 [(160, spec_l1In_C), (225, spec_InsOk_C)] [(0, spec_CodeOk_L0_H)]) (loopAt (codeP 159) 0)) : LoopOk Try.prog rowU (envOf 159 1 [(160, spec_l1In_C), (225, spec_InsOk_C)] [(0, spec_CodeOk_L0_H)]) 0 (loopAt (codeP 159) 0) spec_CodeOk_L0_H :=
  loopR_ok tagOk mixed envNl (envT (TabOk.cons spec_l1In_ok (TabOk.cons spec_InsOk_ok TabOk.nil))) hb spec_CodeOk_L0_st spec_CodeOk_L0_D_ok fun p s ρ A Kx Kr => (spec_CodeOk_L0_nf p s ρ A Kx Kr).trans (spec_CodeOk_L0_bind p s _ _ _)
noncomputable def spec_CodeOk_K (x0 : List GIns) {ρ : Type} (K : Bool → Option ρ) : Option ρ :=
  Option.bind (runL (spec_CodeOk_L0_step x0) 0) fun ot2 => sumK ot2
    (fun t2 => Option.bind (spec_l1In (((x0.length : Nat) : Int)) 1 48) fun r4 =>
    K r4)
    (fun k3 => K false)
noncomputable def spec_CodeOk (x0 : List GIns) : Option (Bool) := spec_CodeOk_K x0 some
theorem spec_CodeOk_bind (x0 : List GIns) {ρ : Type} (K : Bool → Option ρ) : spec_CodeOk_K x0 K = (spec_CodeOk x0).bind K := by
  simp only [spec_CodeOk, spec_CodeOk_K, Option.bind_assoc, Option.bind_some, Option.bind_none, cond_bind, sumK_bind]
noncomputable def spec_CodeOk_E : Env Row := envN false 159 1 [(160, spec_l1In_C), (225, spec_InsOk_C)] [(0, spec_CodeOk_L0_H)]
theorem spec_CodeOk_nf (x0 : List GIns) (ρ : Type) (K : V → Heap Row → Option ρ) : evBody rowU spec_CodeOk_E (bodyC 159) [.c (.sl 0 0)] [⟨.row ⟨.ins, x0⟩, 0, 1⟩] K = spec_CodeOk_K x0 (fun r => K (.c (.bool r)) [⟨.row ⟨.ins, x0⟩, 0, 1⟩]) := by kernel_rfl
def spec_CodeOk_D : List V → Heap Row → Option (List GIns)
  | [.c (.sl 0 0)], [⟨.row ⟨.ins, v1⟩, 0, 1⟩] => some (v1)
  | _, _ => none
theorem spec_CodeOk_D_ok {vs : List V} {W : Heap Row} {a : List GIns} (h : spec_CodeOk_D vs W = some a) : vs = [.c (.sl 0 0)] ∧ W = [⟨.row ⟨.ins, a⟩, 0, 1⟩] := by
  unfold spec_CodeOk_D at h
  split at h
  · simp at h; subst h; exact ⟨rfl, rfl⟩
  · simp at h
noncomputable def spec_CodeOk_C : Callee Row := ⟨[(false, 0)], fun _ vs W K => (spec_CodeOk_D vs W).bind fun a => (spec_CodeOk a).bind fun r => K (.c (.bool r)) [⟨.row ⟨.ins, a⟩, 0, 1⟩]⟩
theorem spec_CodeOk_ok : CalleeOk Try.prog rowU 159 spec_CodeOk_C := by
  refine calleeP (nl := false) (m0 := 1) (T := [(160, spec_l1In_C), (225, spec_InsOk_C)]) (H := [(0, spec_CodeOk_L0_H)]) (TabOk.cons spec_l1In_ok (TabOk.cons spec_InsOk_ok TabOk.nil)) (by kernel_rfl) (by kernel_rfl) (fun p hp hb => by
    simp only [List.mem_cons, List.not_mem_nil, or_false] at hp
    subst hp
    exact spec_CodeOk_L0_ok hb) fun ρ vs W K r h => ?_
  obtain ⟨a, ha, h1⟩ := Option.bind_eq_some_iff.1 h
  clear h
  obtain ⟨rfl, rfl⟩ := spec_CodeOk_D_ok ha
  obtain ⟨q, hq, h2⟩ := Option.bind_eq_some_iff.1 h1
  exact ⟨_, _, h2, (spec_CodeOk_nf a _ _).trans ((spec_CodeOk_bind a _).trans (by rw [hq]; rfl))⟩
/-! loop.example/g00249/spec.NextPlaces -/
noncomputable def spec_NextPlaces_L0_K (l0 : List GIns) (n2 : Int) (n3 : Int) (n4 : Int) (n5 : Int) (n6 : Int) (n7 : Int) (l1 : List Int) (n8 : Int) {ρ : Type} (A : List Int × Int → Option ρ) (X : List Int → Option ρ) (R : Unit → Option ρ) : Option ρ :=
  cond (decide (n8 < (((l0.length : Nat) : Int))))
    (cond ((n8 == (w64 (n7 + 1))) == true)
      (cond ((n2 == 13) == true)
        (cond ((n8 == (w64 (n7 + n6))) == false)
          (cond (n2 == 12)
            (cond (decide ((((l1.length) + 1) * 8) ≤ 140737488355328)) (A (l1 ++ [n8], w64 (n8 + 1))) none)
            (cond (n2 != 15)
              (cond (decide ((((l1.length) + 1) * 8) ≤ 140737488355328)) (A (l1 ++ [n8], w64 (n8 + 1))) none)
              (A (l1, w64 (n8 + 1)))))
          (cond (decide ((((l1.length) + 1) * 8) ≤ 140737488355328)) (A (l1 ++ [n8], w64 (n8 + 1))) none))
        (cond (n2 == 12)
          (cond (decide ((((l1.length) + 1) * 8) ≤ 140737488355328)) (A (l1 ++ [n8], w64 (n8 + 1))) none)
          (cond (n2 != 15)
            (cond (decide ((((l1.length) + 1) * 8) ≤ 140737488355328)) (A (l1 ++ [n8], w64 (n8 + 1))) none)
            (A (l1, w64 (n8 + 1))))))
      (cond ((n2 == 13) == true)
        (cond ((n8 == (w64 (n7 + n6))) == false)
          (cond (n2 == 12)
            (cond (decide ((((l1.length) + 1) * 8) ≤ 140737488355328)) (A (l1 ++ [n8], w64 (n8 + 1))) none)
            (A (l1, w64 (n8 + 1))))
          (cond (decide ((((l1.length) + 1) * 8) ≤ 140737488355328)) (A (l1 ++ [n8], w64 (n8 + 1))) none))
        (cond (n2 == 12)
          (cond (decide ((((l1.length) + 1) * 8) ≤ 140737488355328)) (A (l1 ++ [n8], w64 (n8 + 1))) none)
          (A (l1, w64 (n8 + 1))))))
    (X l1)
noncomputable def spec_NextPlaces_L0_step (l0 : List GIns) (n2 : Int) (n3 : Int) (n4 : Int) (n5 : Int) (n6 : Int) (n7 : Int) (s : List Int × Int) : Option (Rnd (List Int × Int) (List Int) (Unit)) := spec_NextPlaces_L0_K l0 n2 n3 n4 n5 n6 n7 (s.1) (s.2) (fun s => some (.again s)) (fun t => some (.exit t)) (fun k => some (.ret k))
theorem spec_NextPlaces_L0_bind (l0 : List GIns) (n2 : Int) (n3 : Int) (n4 : Int) (n5 : Int) (n6 : Int) (n7 : Int) (s : List Int × Int) {ρ : Type} (A : List Int × Int → Option ρ) (X : List Int → Option ρ) (R : Unit → Option ρ) : spec_NextPlaces_L0_K l0 n2 n3 n4 n5 n6 n7 (s.1) (s.2) A X R = (spec_NextPlaces_L0_step l0 n2 n3 n4 n5 n6 n7 s).bind (rndE A X R) := by
  simp only [spec_NextPlaces_L0_step, spec_NextPlaces_L0_K, Option.bind_assoc, Option.bind_some, Option.bind_none, cond_bind, sumK_bind, rndE_again, rndE_exit, rndE_ret]
def spec_NextPlaces_L0_st (p : List GIns × Int × Int × Int × Int × Int × Int) (s : List Int × Int) : List V × Heap Row := ([.c (.sl 0 0), .c (.int .i64 (p.2.2.2.2.2.2)), .c (.sl 1 0), .c (.ptr 2 0), .c (.int .i64 (s.2))], [⟨.row ⟨.ins, p.1⟩, 0, 1⟩, ⟨.row ⟨.int, s.1⟩, 0, 2⟩, ⟨.box [.int .i64 (p.2.1), .int .i64 (p.2.2.1), .int .i64 (p.2.2.2.1), .int .i64 (p.2.2.2.2.1), .int .i64 (p.2.2.2.2.2.1)], 0, 2⟩])
def spec_NextPlaces_L0_so (p : List GIns × Int × Int × Int × Int × Int × Int) (t : List Int) : List V × Heap Row := ([.c (.sl 1 0)], [⟨.row ⟨.ins, p.1⟩, 0, 1⟩, ⟨.row ⟨.int, t⟩, 0, 2⟩])
def spec_NextPlaces_L0_D : List V → Heap Row → Option ((List GIns × Int × Int × Int × Int × Int × Int) × (List Int × Int))
  | [.c (.sl 0 0), .c (.int .i64 v1), .c (.sl 1 0), .c (.ptr 2 0), .c (.int .i64 v2)], [⟨.row ⟨.ins, v3⟩, 0, 1⟩, ⟨.row ⟨.int, v4⟩, 0, 2⟩, ⟨.box [.int .i64 v5, .int .i64 v6, .int .i64 v7, .int .i64 v8, .int .i64 v9], 0, 2⟩] => some ((v3, v5, v6, v7, v8, v9, v1), (v4, v2))
  | _, _ => none
theorem spec_NextPlaces_L0_D_ok (vs : List V) (L : Heap Row) (p : List GIns × Int × Int × Int × Int × Int × Int) (s : List Int × Int) (h : spec_NextPlaces_L0_D vs L = some (p, s)) : spec_NextPlaces_L0_st p s = (vs, L) := by
  unfold spec_NextPlaces_L0_D at h
  split at h
  · simp at h; obtain ⟨rfl, rfl⟩ := h; rfl
  · simp at h
noncomputable def spec_NextPlaces_L0_H : LoopH Row := loopX [0, 1, 5, 6, 7] [5] spec_NextPlaces_L0_D (fun p => spec_NextPlaces_L0_step (p.1) (p.2.1) (p.2.2.1) (p.2.2.2.1) (p.2.2.2.2.1) (p.2.2.2.2.2.1) (p.2.2.2.2.2.2)) spec_NextPlaces_L0_so
theorem spec_NextPlaces_L0_nf (p : List GIns × Int × Int × Int × Int × Int × Int) (s : List Int × Int) (ρ : Type) (again Kx Kr : List V → Heap Row → Option ρ) : evRound rowU (envOf 69 1 [(160, spec_l1In_C), (159, spec_CodeOk_C)] [(0, spec_NextPlaces_L0_H)]) 0 spec_NextPlaces_L0_H (loopC 69 0) again (spec_NextPlaces_L0_st p s).1 (spec_NextPlaces_L0_st p s).2 Kx Kr = spec_NextPlaces_L0_K (p.1) (p.2.1) (p.2.2.1) (p.2.2.2.1) (p.2.2.2.2.1) (p.2.2.2.2.2.1) (p.2.2.2.2.2.2) (s.1) (s.2) (fun s => again (spec_NextPlaces_L0_st p s).1 (spec_NextPlaces_L0_st p s).2) (fun t => Kx (spec_NextPlaces_L0_so p t).1 (spec_NextPlaces_L0_so p t).2) (fun _ => none) := by kernel_rfl
theorem spec_NextPlaces_L0_ok (hb : LoopsOk Try.prog rowU (envOf 69 1 [(160, spec_l1In_C), (159, spec_CodeOk_C)] [(0, spec_NextPlaces_L0_H)]) (loopAt (codeP 69) 0)) : LoopOk Try.prog rowU (envOf 69 1 [(160, spec_l1In_C), (159, spec_CodeOk_C)] [(0, spec_NextPlaces_L0_H)]) 0 (loopAt (codeP 69) 0) spec_NextPlaces_L0_H :=
  loopX_ok tagOk mixed envNl (envT (TabOk.cons spec_l1In_ok (TabOk.cons spec_CodeOk_ok TabOk.nil))) hb spec_NextPlaces_L0_st spec_NextPlaces_L0_D_ok fun p s ρ A Kx Kr => (spec_NextPlaces_L0_nf p s ρ A Kx Kr).trans (spec_NextPlaces_L0_bind (p.1) (p.2.1) (p.2.2.1) (p.2.2.2.1) (p.2.2.2.2.1) (p.2.2.2.2.2.1) (p.2.2.2.2.2.2) s _ _ _)
noncomputable def spec_NextPlaces_K (x0 : List GIns) (x1 : Int) {ρ : Type} (K : List Int → Option ρ) : Option ρ :=
  Option.bind (spec_CodeOk x0) fun r1 =>
  cond ((!r1) == false)
    (Option.bind (spec_l1In x1 0 (w64 ((((x0.length : Nat) : Int)) - 1))) fun r2 =>
    cond (!r2)
      (K [])
      (cond (decide (0 ≤ x1)) (cond (decide (x1 < (((x0.length : Nat) : Int)))) (Option.bind (runX (spec_NextPlaces_L0_step x0 (List.getD x0 (x1.toNat) (default)).op (List.getD x0 (x1.toNat) (default)).r (List.getD x0 (x1.toNat) (default)).a (List.getD x0 (x1.toNat) (default)).b (List.getD x0 (x1.toNat) (default)).n x1) ([], 0)) fun t3 =>
      K t3) none) none))
    (K [])
noncomputable def spec_NextPlaces (x0 : List GIns) (x1 : Int) : Option (List Int) := spec_NextPlaces_K x0 x1 some
theorem spec_NextPlaces_bind (x0 : List GIns) (x1 : Int) {ρ : Type} (K : List Int → Option ρ) : spec_NextPlaces_K x0 x1 K = (spec_NextPlaces x0 x1).bind K := by
  simp only [spec_NextPlaces, spec_NextPlaces_K, Option.bind_assoc, Option.bind_some, Option.bind_none, cond_bind, sumK_bind]
noncomputable def spec_NextPlaces_E : Env Row := envN false 69 1 [(160, spec_l1In_C), (159, spec_CodeOk_C)] [(0, spec_NextPlaces_L0_H)]
theorem spec_NextPlaces_nf (x0 : List GIns) (x1 : Int) (ρ : Type) (K : V → Heap Row → Option ρ) : evBody rowU spec_NextPlaces_E (bodyC 69) [.c (.sl 0 0), .c (.int .i64 x1)] [⟨.row ⟨.ins, x0⟩, 0, 1⟩] K = spec_NextPlaces_K x0 x1 (fun r => K (.c (.sl 1 0)) [⟨.row ⟨.ins, x0⟩, 0, 1⟩, ⟨.row ⟨.int, r⟩, 0, 2⟩]) := by kernel_rfl
def spec_NextPlaces_D : List V → Heap Row → Option (List GIns × Int)
  | [.c (.sl 0 0), .c (.int .i64 v1)], [⟨.row ⟨.ins, v2⟩, 0, 1⟩] => some (v2, v1)
  | _, _ => none
theorem spec_NextPlaces_D_ok {vs : List V} {W : Heap Row} {a : List GIns × Int} (h : spec_NextPlaces_D vs W = some a) : vs = [.c (.sl 0 0), .c (.int .i64 (a.2))] ∧ W = [⟨.row ⟨.ins, a.1⟩, 0, 1⟩] := by
  unfold spec_NextPlaces_D at h
  split at h
  · simp at h; subst h; exact ⟨rfl, rfl⟩
  · simp at h
noncomputable def spec_NextPlaces_C : Callee Row := ⟨[(false, 0)], fun _ vs W K => (spec_NextPlaces_D vs W).bind fun a => (spec_NextPlaces a.1 a.2).bind fun r => K (.c (.sl 1 0)) [⟨.row ⟨.ins, a.1⟩, 0, 1⟩, ⟨.row ⟨.int, r⟩, 0, 2⟩]⟩
theorem spec_NextPlaces_ok : CalleeOk Try.prog rowU 69 spec_NextPlaces_C := by
  refine calleeP (nl := false) (m0 := 1) (T := [(160, spec_l1In_C), (159, spec_CodeOk_C)]) (H := [(0, spec_NextPlaces_L0_H)]) (TabOk.cons spec_l1In_ok (TabOk.cons spec_CodeOk_ok TabOk.nil)) (by kernel_rfl) (by kernel_rfl) (fun p hp hb => by
    simp only [List.mem_cons, List.not_mem_nil, or_false] at hp
    subst hp
    exact spec_NextPlaces_L0_ok hb) fun ρ vs W K r h => ?_
  obtain ⟨a, ha, h1⟩ := Option.bind_eq_some_iff.1 h
  clear h
  obtain ⟨rfl, rfl⟩ := spec_NextPlaces_D_ok ha
  obtain ⟨q, hq, h2⟩ := Option.bind_eq_some_iff.1 h1
  exact ⟨_, _, h2, (spec_NextPlaces_nf (a.1) (a.2) _ _).trans ((spec_NextPlaces_bind (a.1) (a.2) _).trans (by rw [hq]; rfl))⟩
/-! loop.example/g00249/impl.in -/
def impl_in_K (x0 : Int) (x1 : Int) (x2 : Int) {ρ : Type} (K : Bool → Option ρ) : Option ρ :=
  cond ((decide (x0 ≥ x1)) == true)
    (K (decide (x0 ≤ x2)))
    (K false)
def impl_in (x0 : Int) (x1 : Int) (x2 : Int) : Option (Bool) := impl_in_K x0 x1 x2 some
theorem impl_in_bind (x0 : Int) (x1 : Int) (x2 : Int) {ρ : Type} (K : Bool → Option ρ) : impl_in_K x0 x1 x2 K = (impl_in x0 x1 x2).bind K := by
  simp only [impl_in, impl_in_K, Option.bind_assoc, Option.bind_some, Option.bind_none, cond_bind, sumK_bind]
noncomputable def impl_in_E : Env Row := envN false 125 0 [] []
theorem impl_in_nf (x0 : Int) (x1 : Int) (x2 : Int) (ρ : Type) (K : V → Heap Row → Option ρ) : evBody rowU impl_in_E (bodyC 125) [.c (.int .i64 x0), .c (.int .i64 x1), .c (.int .i64 x2)] [] K = impl_in_K x0 x1 x2 (fun r => K (.c (.bool r)) []) := by kernel_rfl
def impl_in_D : List V → Heap Row → Option (Int × Int × Int)
  | [.c (.int .i64 v1), .c (.int .i64 v2), .c (.int .i64 v3)], [] => some (v1, v2, v3)
  | _, _ => none
theorem impl_in_D_ok {vs : List V} {W : Heap Row} {a : Int × Int × Int} (h : impl_in_D vs W = some a) : vs = [.c (.int .i64 (a.1)), .c (.int .i64 (a.2.1)), .c (.int .i64 (a.2.2))] ∧ W = [] := by
  unfold impl_in_D at h
  split at h
  · simp at h; subst h; exact ⟨rfl, rfl⟩
  · simp at h
def impl_in_C : Callee Row := ⟨[], fun _ vs W K => (impl_in_D vs W).bind fun a => (impl_in a.1 a.2.1 a.2.2).bind fun r => K (.c (.bool r)) []⟩
theorem impl_in_ok : CalleeOk Try.prog rowU 125 impl_in_C := by
  refine calleeP (nl := false) (m0 := 0) (T := []) (H := []) TabOk.nil (by kernel_rfl) (by kernel_rfl) (fun p hp => nomatch hp) fun ρ vs W K r h => ?_
  obtain ⟨a, ha, h1⟩ := Option.bind_eq_some_iff.1 h
  clear h
  obtain ⟨rfl, rfl⟩ := impl_in_D_ok ha
  obtain ⟨q, hq, h2⟩ := Option.bind_eq_some_iff.1 h1
  exact ⟨_, _, h2, (impl_in_nf (a.1) (a.2.1) (a.2.2) _ _).trans ((impl_in_bind (a.1) (a.2.1) (a.2.2) _).trans (by rw [hq]; rfl))⟩
/-! loop.example/g00249/impl.formOf -/
def impl_formOf_K (x0 : Int) {ρ : Type} (K : ByteArray × Bool → Option ρ) : Option ρ :=
  cond (x0 == 1)
    (K (⟨#[82, 78]⟩, true))
    (cond (x0 == 2)
      (K (⟨#[82, 65, 66]⟩, true))
      (cond (x0 == 4)
        (K (⟨#[82, 65, 66]⟩, true))
        (cond (x0 == 5)
          (K (⟨#[82, 65, 66]⟩, true))
          (cond (x0 == 7)
            (K (⟨#[82, 65, 66]⟩, true))
            (cond (x0 == 8)
              (K (⟨#[82, 65, 66]⟩, true))
              (cond (x0 == 3)
                (K (⟨#[82, 65]⟩, true))
                (cond (x0 == 9)
                  (K (⟨#[82, 65]⟩, true))
                  (cond (x0 == 12)
                    (K (⟨#[82, 65]⟩, true))
                    (cond (x0 == 6)
                      (K (⟨#[82, 65, 66, 78]⟩, true))
                      (cond (x0 == 10)
                        (K (⟨#[82, 65, 78]⟩, true))
                        (cond (x0 == 11)
                          (K (⟨#[65, 66, 78]⟩, true))
                          (cond (x0 == 13)
                            (K (⟨#[65, 78]⟩, true))
                            (cond (x0 == 14)
                              (K (⟨#[65]⟩, true))
                              (cond (x0 == 15)
                                (K (⟨#[]⟩, true))
                                (K (⟨#[]⟩, false))))))))))))))))
def impl_formOf (x0 : Int) : Option (ByteArray × Bool) := impl_formOf_K x0 some
theorem impl_formOf_bind (x0 : Int) {ρ : Type} (K : ByteArray × Bool → Option ρ) : impl_formOf_K x0 K = (impl_formOf x0).bind K := by
  simp only [impl_formOf, impl_formOf_K, Option.bind_assoc, Option.bind_some, Option.bind_none, cond_bind, sumK_bind]
noncomputable def impl_formOf_E : Env Row := envN false 220 0 [] []
theorem impl_formOf_nf (x0 : Int) (ρ : Type) (K : V → Heap Row → Option ρ) : evBody rowU impl_formOf_E (bodyC 220) [.c (.int .i64 x0)] [] K = impl_formOf_K x0 (fun r => K (.t [(false, [.str r.1]), (false, [.bool r.2])]) []) := by kernel_rfl
def impl_formOf_D : List V → Heap Row → Option (Int)
  | [.c (.int .i64 v1)], [] => some (v1)
  | _, _ => none
theorem impl_formOf_D_ok {vs : List V} {W : Heap Row} {a : Int} (h : impl_formOf_D vs W = some a) : vs = [.c (.int .i64 (a))] ∧ W = [] := by
  unfold impl_formOf_D at h
  split at h
  · simp at h; subst h; exact ⟨rfl, rfl⟩
  · simp at h
def impl_formOf_C : Callee Row := ⟨[], fun _ vs W K => (impl_formOf_D vs W).bind fun a => (impl_formOf a).bind fun r => K (.t [(false, [.str r.1]), (false, [.bool r.2])]) []⟩
theorem impl_formOf_ok : CalleeOk Try.prog rowU 220 impl_formOf_C := by
  refine calleeP (nl := false) (m0 := 0) (T := []) (H := []) TabOk.nil (by kernel_rfl) (by kernel_rfl) (fun p hp => nomatch hp) fun ρ vs W K r h => ?_
  obtain ⟨a, ha, h1⟩ := Option.bind_eq_some_iff.1 h
  clear h
  obtain ⟨rfl, rfl⟩ := impl_formOf_D_ok ha
  obtain ⟨q, hq, h2⟩ := Option.bind_eq_some_iff.1 h1
  exact ⟨_, _, h2, (impl_formOf_nf a _ _).trans ((impl_formOf_bind a _).trans (by rw [hq]; rfl))⟩
/-! loop.example/g00249/impl.partOf -/
def impl_partOf_K (x0 : GIns) (x1 : Int) {ρ : Type} (K : Int → Option ρ) : Option ρ :=
  cond (x1 == 82)
    (K x0.r)
    (cond (x1 == 65)
      (K x0.a)
      (cond (x1 == 66)
        (K x0.b)
        (K x0.n)))
def impl_partOf (x0 : GIns) (x1 : Int) : Option (Int) := impl_partOf_K x0 x1 some
theorem impl_partOf_bind (x0 : GIns) (x1 : Int) {ρ : Type} (K : Int → Option ρ) : impl_partOf_K x0 x1 K = (impl_partOf x0 x1).bind K := by
  simp only [impl_partOf, impl_partOf_K, Option.bind_assoc, Option.bind_some, Option.bind_none, cond_bind, sumK_bind]
noncomputable def impl_partOf_E : Env Row := envN false 221 0 [] []
theorem impl_partOf_nf (x0 : GIns) (x1 : Int) (ρ : Type) (K : V → Heap Row → Option ρ) : evBody rowU impl_partOf_E (bodyC 221) [.a [.int .i64 x0.op, .int .i64 x0.r, .int .i64 x0.a, .int .i64 x0.b, .int .i64 x0.n], .c (.int .u8 x1)] [] K = impl_partOf_K x0 x1 (fun r => K (.c (.int .i64 r)) []) := by kernel_rfl
def impl_partOf_D : List V → Heap Row → Option (GIns × Int)
  | [.a (.int .i64 v1 :: .int .i64 v2 :: .int .i64 v3 :: .int .i64 v4 :: .int .i64 v5 :: []), .c (.int .u8 v6)], [] => some (⟨v1, v2, v3, v4, v5⟩, v6)
  | _, _ => none
theorem impl_partOf_D_ok {vs : List V} {W : Heap Row} {a : GIns × Int} (h : impl_partOf_D vs W = some a) : vs = [.a [.int .i64 (a.1).op, .int .i64 (a.1).r, .int .i64 (a.1).a, .int .i64 (a.1).b, .int .i64 (a.1).n], .c (.int .u8 (a.2))] ∧ W = [] := by
  unfold impl_partOf_D at h
  split at h
  · simp at h; subst h; exact ⟨rfl, rfl⟩
  · simp at h
def impl_partOf_C : Callee Row := ⟨[], fun _ vs W K => (impl_partOf_D vs W).bind fun a => (impl_partOf a.1 a.2).bind fun r => K (.c (.int .i64 r)) []⟩
theorem impl_partOf_ok : CalleeOk Try.prog rowU 221 impl_partOf_C := by
  refine calleeP (nl := false) (m0 := 0) (T := []) (H := []) TabOk.nil (by kernel_rfl) (by kernel_rfl) (fun p hp => nomatch hp) fun ρ vs W K r h => ?_
  obtain ⟨a, ha, h1⟩ := Option.bind_eq_some_iff.1 h
  clear h
  obtain ⟨rfl, rfl⟩ := impl_partOf_D_ok ha
  obtain ⟨q, hq, h2⟩ := Option.bind_eq_some_iff.1 h1
  exact ⟨_, _, h2, (impl_partOf_nf (a.1) (a.2) _ _).trans ((impl_partOf_bind (a.1) (a.2) _).trans (by rw [hq]; rfl))⟩
/-! slices.Index[[]byte,byte] -/
noncomputable def slices_Index_L0_K (l0 : List Int) (n1 : Int) (n2 : Int) (n3 : Int) {ρ : Type} (A : Int → Option ρ) (X : Unit → Option ρ) (R : Int → Option ρ) : Option ρ :=
  cond (decide (n3 < n2))
    (cond (decide (0 ≤ n3)) (cond (decide (n3 < (((l0.length : Nat) : Int)))) (cond (n1 == (List.getD l0 (n3.toNat) 0))
      (R n3)
      (A (w64 (n3 + 1)))) none) none)
    (X ())
noncomputable def slices_Index_L0_step (l0 : List Int) (n1 : Int) (n2 : Int) (s : Int) : Option (Rnd (Int) (Unit) (Int)) := slices_Index_L0_K l0 n1 n2 s (fun s => some (.again s)) (fun t => some (.exit t)) (fun k => some (.ret k))
theorem slices_Index_L0_bind (l0 : List Int) (n1 : Int) (n2 : Int) (s : Int) {ρ : Type} (A : Int → Option ρ) (X : Unit → Option ρ) (R : Int → Option ρ) : slices_Index_L0_K l0 n1 n2 s A X R = (slices_Index_L0_step l0 n1 n2 s).bind (rndE A X R) := by
  simp only [slices_Index_L0_step, slices_Index_L0_K, Option.bind_assoc, Option.bind_some, Option.bind_none, cond_bind, sumK_bind, rndE_again, rndE_exit, rndE_ret]
def slices_Index_L0_st (p : List Int × Int × Int) (s : Int) : List V × Heap Row := ([.c (.sl 0 0), .c (.int .u8 (p.2.1)), .c (.int .i64 (p.2.2)), .c (.int .i64 (s))], [⟨.row ⟨.byte, p.1⟩, 0, 1⟩])
def slices_Index_L0_so (p : List Int × Int × Int) (t : Unit) : List V × Heap Row := ([], [⟨.row ⟨.byte, p.1⟩, 0, 1⟩])
def slices_Index_L0_sr (p : List Int × Int × Int) (k : Int) : List V × Heap Row := ([.c (.int .i64 (k))], [⟨.row ⟨.byte, p.1⟩, 0, 1⟩])
def slices_Index_L0_D : List V → Heap Row → Option ((List Int × Int × Int) × (Int))
  | [.c (.sl 0 0), .c (.int .u8 v1), .c (.int .i64 v2), .c (.int .i64 v3)], [⟨.row ⟨.byte, v4⟩, 0, 1⟩] => some ((v4, v1, v2), (v3))
  | _, _ => none
theorem slices_Index_L0_D_ok (vs : List V) (L : Heap Row) (p : List Int × Int × Int) (s : Int) (h : slices_Index_L0_D vs L = some (p, s)) : slices_Index_L0_st p s = (vs, L) := by
  unfold slices_Index_L0_D at h
  split at h
  · simp at h; obtain ⟨rfl, rfl⟩ := h; rfl
  · simp at h
noncomputable def slices_Index_L0_H : LoopH Row := loopR [0, 1, 7, 8] [] slices_Index_L0_D (fun p => slices_Index_L0_step (p.1) (p.2.1) (p.2.2)) slices_Index_L0_so slices_Index_L0_sr
theorem slices_Index_L0_nf (p : List Int × Int × Int) (s : Int) (ρ : Type) (again Kx Kr : List V → Heap Row → Option ρ) : evRound rowU (envOf 302 1 [] [(0, slices_Index_L0_H)]) 0 slices_Index_L0_H (loopC 302 0) again (slices_Index_L0_st p s).1 (slices_Index_L0_st p s).2 Kx Kr = slices_Index_L0_K (p.1) (p.2.1) (p.2.2) s (fun s => again (slices_Index_L0_st p s).1 (slices_Index_L0_st p s).2) (fun t => Kx (slices_Index_L0_so p t).1 (slices_Index_L0_so p t).2) (fun k => Kr (slices_Index_L0_sr p k).1 (slices_Index_L0_sr p k).2) := by kernel_rfl
theorem slices_Index_L0_ok (hb : LoopsOk Try.prog rowU (envOf 302 1 [] [(0, slices_Index_L0_H)]) (loopAt (codeP 302) 0)) : LoopOk Try.prog rowU (envOf 302 1 [] [(0, slices_Index_L0_H)]) 0 (loopAt (codeP 302) 0) slices_Index_L0_H :=
  loopR_ok tagOk mixed envNl (envT TabOk.nil) hb slices_Index_L0_st slices_Index_L0_D_ok fun p s ρ A Kx Kr => (slices_Index_L0_nf p s ρ A Kx Kr).trans (slices_Index_L0_bind (p.1) (p.2.1) (p.2.2) s _ _ _)
noncomputable def slices_Index_K (x0 : List Int) (x1 : Int) {ρ : Type} (K : Int → Option ρ) : Option ρ :=
  Option.bind (runL (slices_Index_L0_step x0 x1 (((x0.length : Nat) : Int))) 0) fun ot1 => sumK ot1
    (fun t1 => K (-1))
    (fun k2 => K k2)
noncomputable def slices_Index (x0 : List Int) (x1 : Int) : Option (Int) := slices_Index_K x0 x1 some
theorem slices_Index_bind (x0 : List Int) (x1 : Int) {ρ : Type} (K : Int → Option ρ) : slices_Index_K x0 x1 K = (slices_Index x0 x1).bind K := by
  simp only [slices_Index, slices_Index_K, Option.bind_assoc, Option.bind_some, Option.bind_none, cond_bind, sumK_bind]
noncomputable def slices_Index_E : Env Row := envN false 302 1 [] [(0, slices_Index_L0_H)]
theorem slices_Index_nf (x0 : List Int) (x1 : Int) (ρ : Type) (K : V → Heap Row → Option ρ) : evBody rowU slices_Index_E (bodyC 302) [.c (.sl 0 0), .c (.int .u8 x1)] [⟨.row ⟨.byte, x0⟩, 0, 1⟩] K = slices_Index_K x0 x1 (fun r => K (.c (.int .i64 r)) [⟨.row ⟨.byte, x0⟩, 0, 1⟩]) := by kernel_rfl
def slices_Index_D : List V → Heap Row → Option (List Int × Int)
  | [.c (.sl 0 0), .c (.int .u8 v1)], [⟨.row ⟨.byte, v2⟩, 0, 1⟩] => some (v2, v1)
  | _, _ => none
theorem slices_Index_D_ok {vs : List V} {W : Heap Row} {a : List Int × Int} (h : slices_Index_D vs W = some a) : vs = [.c (.sl 0 0), .c (.int .u8 (a.2))] ∧ W = [⟨.row ⟨.byte, a.1⟩, 0, 1⟩] := by
  unfold slices_Index_D at h
  split at h
  · simp at h; subst h; exact ⟨rfl, rfl⟩
  · simp at h
noncomputable def slices_Index_C : Callee Row := ⟨[(false, 0)], fun _ vs W K => (slices_Index_D vs W).bind fun a => (slices_Index a.1 a.2).bind fun r => K (.c (.int .i64 r)) [⟨.row ⟨.byte, a.1⟩, 0, 1⟩]⟩
theorem slices_Index_ok : CalleeOk Try.prog rowU 302 slices_Index_C := by
  refine calleeP (nl := false) (m0 := 1) (T := []) (H := [(0, slices_Index_L0_H)]) TabOk.nil (by kernel_rfl) (by kernel_rfl) (fun p hp hb => by
    simp only [List.mem_cons, List.not_mem_nil, or_false] at hp
    subst hp
    exact slices_Index_L0_ok hb) fun ρ vs W K r h => ?_
  obtain ⟨a, ha, h1⟩ := Option.bind_eq_some_iff.1 h
  clear h
  obtain ⟨rfl, rfl⟩ := slices_Index_D_ok ha
  obtain ⟨q, hq, h2⟩ := Option.bind_eq_some_iff.1 h1
  exact ⟨_, _, h2, (slices_Index_nf (a.1) (a.2) _ _).trans ((slices_Index_bind (a.1) (a.2) _).trans (by rw [hq]; rfl))⟩
/-! slices.Contains[[]byte,byte] -/
noncomputable def slices_Contains_K (x0 : List Int) (x1 : Int) {ρ : Type} (K : Bool → Option ρ) : Option ρ :=
  Option.bind (slices_Index x0 x1) fun r1 =>
  K (decide (r1 ≥ 0))
noncomputable def slices_Contains (x0 : List Int) (x1 : Int) : Option (Bool) := slices_Contains_K x0 x1 some
theorem slices_Contains_bind (x0 : List Int) (x1 : Int) {ρ : Type} (K : Bool → Option ρ) : slices_Contains_K x0 x1 K = (slices_Contains x0 x1).bind K := by
  simp only [slices_Contains, slices_Contains_K, Option.bind_assoc, Option.bind_some, Option.bind_none, cond_bind, sumK_bind]
noncomputable def slices_Contains_E : Env Row := envN false 271 1 [(302, slices_Index_C)] []
theorem slices_Contains_nf (x0 : List Int) (x1 : Int) (ρ : Type) (K : V → Heap Row → Option ρ) : evBody rowU slices_Contains_E (bodyC 271) [.c (.sl 0 0), .c (.int .u8 x1)] [⟨.row ⟨.byte, x0⟩, 0, 1⟩] K = slices_Contains_K x0 x1 (fun r => K (.c (.bool r)) [⟨.row ⟨.byte, x0⟩, 0, 1⟩]) := by kernel_rfl
def slices_Contains_D : List V → Heap Row → Option (List Int × Int)
  | [.c (.sl 0 0), .c (.int .u8 v1)], [⟨.row ⟨.byte, v2⟩, 0, 1⟩] => some (v2, v1)
  | _, _ => none
theorem slices_Contains_D_ok {vs : List V} {W : Heap Row} {a : List Int × Int} (h : slices_Contains_D vs W = some a) : vs = [.c (.sl 0 0), .c (.int .u8 (a.2))] ∧ W = [⟨.row ⟨.byte, a.1⟩, 0, 1⟩] := by
  unfold slices_Contains_D at h
  split at h
  · simp at h; subst h; exact ⟨rfl, rfl⟩
  · simp at h
noncomputable def slices_Contains_C : Callee Row := ⟨[(false, 0)], fun _ vs W K => (slices_Contains_D vs W).bind fun a => (slices_Contains a.1 a.2).bind fun r => K (.c (.bool r)) [⟨.row ⟨.byte, a.1⟩, 0, 1⟩]⟩
theorem slices_Contains_ok : CalleeOk Try.prog rowU 271 slices_Contains_C := by
  refine calleeP (nl := false) (m0 := 1) (T := [(302, slices_Index_C)]) (H := []) (TabOk.cons slices_Index_ok TabOk.nil) (by kernel_rfl) (by kernel_rfl) (fun p hp => nomatch hp) fun ρ vs W K r h => ?_
  obtain ⟨a, ha, h1⟩ := Option.bind_eq_some_iff.1 h
  clear h
  obtain ⟨rfl, rfl⟩ := slices_Contains_D_ok ha
  obtain ⟨q, hq, h2⟩ := Option.bind_eq_some_iff.1 h1
  exact ⟨_, _, h2, (slices_Contains_nf (a.1) (a.2) _ _).trans ((slices_Contains_bind (a.1) (a.2) _).trans (by rw [hq]; rfl))⟩
/-! loop.example/g00249/impl.hasPart -/
noncomputable def impl_hasPart_K (x0 : GIns) (x1 : Int) {ρ : Type} (K : Bool → Option ρ) : Option ρ :=
  Option.bind (impl_formOf x0.op) fun r1 =>
  Option.bind (slices_Contains (ofStrR r1.1) x1) fun r2 =>
  K r2
noncomputable def impl_hasPart (x0 : GIns) (x1 : Int) : Option (Bool) := impl_hasPart_K x0 x1 some
theorem impl_hasPart_bind (x0 : GIns) (x1 : Int) {ρ : Type} (K : Bool → Option ρ) : impl_hasPart_K x0 x1 K = (impl_hasPart x0 x1).bind K := by
  simp only [impl_hasPart, impl_hasPart_K, Option.bind_assoc, Option.bind_some, Option.bind_none, cond_bind, sumK_bind]
noncomputable def impl_hasPart_E : Env Row := envN false 222 0 [(220, impl_formOf_C), (271, slices_Contains_C)] []
theorem impl_hasPart_nf (x0 : GIns) (x1 : Int) (ρ : Type) (K : V → Heap Row → Option ρ) : evBody rowU impl_hasPart_E (bodyC 222) [.a [.int .i64 x0.op, .int .i64 x0.r, .int .i64 x0.a, .int .i64 x0.b, .int .i64 x0.n], .c (.int .u8 x1)] [] K = impl_hasPart_K x0 x1 (fun r => K (.c (.bool r)) []) := by kernel_rfl
def impl_hasPart_D : List V → Heap Row → Option (GIns × Int)
  | [.a (.int .i64 v1 :: .int .i64 v2 :: .int .i64 v3 :: .int .i64 v4 :: .int .i64 v5 :: []), .c (.int .u8 v6)], [] => some (⟨v1, v2, v3, v4, v5⟩, v6)
  | _, _ => none
theorem impl_hasPart_D_ok {vs : List V} {W : Heap Row} {a : GIns × Int} (h : impl_hasPart_D vs W = some a) : vs = [.a [.int .i64 (a.1).op, .int .i64 (a.1).r, .int .i64 (a.1).a, .int .i64 (a.1).b, .int .i64 (a.1).n], .c (.int .u8 (a.2))] ∧ W = [] := by
  unfold impl_hasPart_D at h
  split at h
  · simp at h; subst h; exact ⟨rfl, rfl⟩
  · simp at h
noncomputable def impl_hasPart_C : Callee Row := ⟨[], fun _ vs W K => (impl_hasPart_D vs W).bind fun a => (impl_hasPart a.1 a.2).bind fun r => K (.c (.bool r)) []⟩
theorem impl_hasPart_ok : CalleeOk Try.prog rowU 222 impl_hasPart_C := by
  refine calleeP (nl := false) (m0 := 0) (T := [(220, impl_formOf_C), (271, slices_Contains_C)]) (H := []) (TabOk.cons impl_formOf_ok (TabOk.cons slices_Contains_ok TabOk.nil)) (by kernel_rfl) (by kernel_rfl) (fun p hp => nomatch hp) fun ρ vs W K r h => ?_
  obtain ⟨a, ha, h1⟩ := Option.bind_eq_some_iff.1 h
  clear h
  obtain ⟨rfl, rfl⟩ := impl_hasPart_D_ok ha
  obtain ⟨q, hq, h2⟩ := Option.bind_eq_some_iff.1 h1
  exact ⟨_, _, h2, (impl_hasPart_nf (a.1) (a.2) _ _).trans ((impl_hasPart_bind (a.1) (a.2) _).trans (by rw [hq]; rfl))⟩
/-! loop.example/g00249/impl.InsOk -/
noncomputable def impl_InsOk_L0_K (n0 : Int) (n1 : Int) (n2 : Int) (n3 : Int) (n4 : Int) (l5 : List Int) (b6 : Bool) (n8 : Int) {ρ : Type} (A : Bool × Int → Option ρ) (X : Bool → Option ρ) (R : Unit → Option ρ) : Option ρ :=
  cond (decide (n8 < 4))
    (cond (decide (0 ≤ n8)) (cond (decide (n8 < (((l5.length : Nat) : Int)))) (Option.bind (impl_partOf (⟨n0, n1, n2, n3, n4⟩ : GIns) (List.getD l5 (n8.toNat) 0)) fun r2 =>
    Option.bind (impl_hasPart (⟨n0, n1, n2, n3, n4⟩ : GIns) (List.getD l5 (n8.toNat) 0)) fun r3 =>
    cond (!r3)
      (cond (b6 == true)
        (A (r2 == 0, w64 (n8 + 1)))
        (A (false, w64 (n8 + 1))))
      (cond ((List.getD l5 (n8.toNat) 0) == 78)
        (cond (b6 == true)
          (Option.bind (impl_in r2 (-128) 127) fun r4 =>
          A (r4, w64 (n8 + 1)))
          (A (false, w64 (n8 + 1))))
        (cond (b6 == true)
          (Option.bind (impl_in r2 0 7) fun r5 =>
          A (r5, w64 (n8 + 1)))
          (A (false, w64 (n8 + 1)))))) none) none)
    (X b6)
noncomputable def impl_InsOk_L0_step (n0 : Int) (n1 : Int) (n2 : Int) (n3 : Int) (n4 : Int) (l5 : List Int) (s : Bool × Int) : Option (Rnd (Bool × Int) (Bool) (Unit)) := impl_InsOk_L0_K n0 n1 n2 n3 n4 l5 (s.1) (s.2) (fun s => some (.again s)) (fun t => some (.exit t)) (fun k => some (.ret k))
theorem impl_InsOk_L0_bind (n0 : Int) (n1 : Int) (n2 : Int) (n3 : Int) (n4 : Int) (l5 : List Int) (s : Bool × Int) {ρ : Type} (A : Bool × Int → Option ρ) (X : Bool → Option ρ) (R : Unit → Option ρ) : impl_InsOk_L0_K n0 n1 n2 n3 n4 l5 (s.1) (s.2) A X R = (impl_InsOk_L0_step n0 n1 n2 n3 n4 l5 s).bind (rndE A X R) := by
  simp only [impl_InsOk_L0_step, impl_InsOk_L0_K, Option.bind_assoc, Option.bind_some, Option.bind_none, cond_bind, sumK_bind, rndE_again, rndE_exit, rndE_ret]
def impl_InsOk_L0_st (p : Int × Int × Int × Int × Int × List Int) (s : Bool × Int) : List V × Heap Row := ([.c (.ptr 0 0), .c (.bool (s.1)), .c (.sl 1 0), .c (.int .i64 4), .c (.int .i64 (s.2))], [⟨.box [.int .i64 (p.1), .int .i64 (p.2.1), .int .i64 (p.2.2.1), .int .i64 (p.2.2.2.1), .int .i64 (p.2.2.2.2.1)], 0, 2⟩, ⟨.row ⟨.byte, p.2.2.2.2.2⟩, 0, 2⟩])
def impl_InsOk_L0_so (p : Int × Int × Int × Int × Int × List Int) (t : Bool) : List V × Heap Row := ([.c (.bool (t))], [])
def impl_InsOk_L0_D : List V → Heap Row → Option ((Int × Int × Int × Int × Int × List Int) × (Bool × Int))
  | [.c (.ptr 0 0), .c (.bool v1), .c (.sl 1 0), .c (.int .i64 4), .c (.int .i64 v2)], [⟨.box [.int .i64 v3, .int .i64 v4, .int .i64 v5, .int .i64 v6, .int .i64 v7], 0, 2⟩, ⟨.row ⟨.byte, v8⟩, 0, 2⟩] => some ((v3, v4, v5, v6, v7, v8), (v1, v2))
  | _, _ => none
theorem impl_InsOk_L0_D_ok (vs : List V) (L : Heap Row) (p : Int × Int × Int × Int × Int × List Int) (s : Bool × Int) (h : impl_InsOk_L0_D vs L = some (p, s)) : impl_InsOk_L0_st p s = (vs, L) := by
  unfold impl_InsOk_L0_D at h
  split at h
  · simp at h; obtain ⟨rfl, rfl⟩ := h; rfl
  · simp at h
noncomputable def impl_InsOk_L0_H : LoopH Row := loopX [1, 4, 15, 16, 17] [4] impl_InsOk_L0_D (fun p => impl_InsOk_L0_step (p.1) (p.2.1) (p.2.2.1) (p.2.2.2.1) (p.2.2.2.2.1) (p.2.2.2.2.2)) impl_InsOk_L0_so
theorem impl_InsOk_L0_nf (p : Int × Int × Int × Int × Int × List Int) (s : Bool × Int) (ρ : Type) (again Kx Kr : List V → Heap Row → Option ρ) : evRound rowU (envOf 152 0 [(125, impl_in_C), (220, impl_formOf_C), (221, impl_partOf_C), (222, impl_hasPart_C)] [(0, impl_InsOk_L0_H)]) 0 impl_InsOk_L0_H (loopC 152 0) again (impl_InsOk_L0_st p s).1 (impl_InsOk_L0_st p s).2 Kx Kr = impl_InsOk_L0_K (p.1) (p.2.1) (p.2.2.1) (p.2.2.2.1) (p.2.2.2.2.1) (p.2.2.2.2.2) (s.1) (s.2) (fun s => again (impl_InsOk_L0_st p s).1 (impl_InsOk_L0_st p s).2) (fun t => Kx (impl_InsOk_L0_so p t).1 (impl_InsOk_L0_so p t).2) (fun _ => none) := by kernel_rfl
theorem impl_InsOk_L0_ok (hb : LoopsOk Try.prog rowU (envOf 152 0 [(125, impl_in_C), (220, impl_formOf_C), (221, impl_partOf_C), (222, impl_hasPart_C)] [(0, impl_InsOk_L0_H)]) (loopAt (codeP 152) 0)) : LoopOk Try.prog rowU (envOf 152 0 [(125, impl_in_C), (220, impl_formOf_C), (221, impl_partOf_C), (222, impl_hasPart_C)] [(0, impl_InsOk_L0_H)]) 0 (loopAt (codeP 152) 0) impl_InsOk_L0_H :=
  loopX_ok tagOk mixed envNl (envT (TabOk.cons impl_in_ok (TabOk.cons impl_formOf_ok (TabOk.cons impl_partOf_ok (TabOk.cons impl_hasPart_ok TabOk.nil))))) hb impl_InsOk_L0_st impl_InsOk_L0_D_ok fun p s ρ A Kx Kr => (impl_InsOk_L0_nf p s ρ A Kx Kr).trans (impl_InsOk_L0_bind (p.1) (p.2.1) (p.2.2.1) (p.2.2.2.1) (p.2.2.2.2.1) (p.2.2.2.2.2) s _ _ _)
noncomputable def impl_InsOk_K (x0 : GIns) {ρ : Type} (K : Bool → Option ρ) : Option ρ :=
  Option.bind (impl_formOf x0.op) fun r1 =>
  Option.bind (runX (impl_InsOk_L0_step x0.op x0.r x0.a x0.b x0.n [82, 65, 66, 78]) (r1.2, 0)) fun t6 =>
  K t6
noncomputable def impl_InsOk (x0 : GIns) : Option (Bool) := impl_InsOk_K x0 some
theorem impl_InsOk_bind (x0 : GIns) {ρ : Type} (K : Bool → Option ρ) : impl_InsOk_K x0 K = (impl_InsOk x0).bind K := by
  simp only [impl_InsOk, impl_InsOk_K, Option.bind_assoc, Option.bind_some, Option.bind_none, cond_bind, sumK_bind]
noncomputable def impl_InsOk_E : Env Row := envN false 152 0 [(125, impl_in_C), (220, impl_formOf_C), (221, impl_partOf_C), (222, impl_hasPart_C)] [(0, impl_InsOk_L0_H)]
theorem impl_InsOk_nf (x0 : GIns) (ρ : Type) (K : V → Heap Row → Option ρ) : evBody rowU impl_InsOk_E (bodyC 152) [.a [.int .i64 x0.op, .int .i64 x0.r, .int .i64 x0.a, .int .i64 x0.b, .int .i64 x0.n]] [] K = impl_InsOk_K x0 (fun r => K (.c (.bool r)) []) := by kernel_rfl
def impl_InsOk_D : List V → Heap Row → Option (GIns)
  | [.a (.int .i64 v1 :: .int .i64 v2 :: .int .i64 v3 :: .int .i64 v4 :: .int .i64 v5 :: [])], [] => some (⟨v1, v2, v3, v4, v5⟩)
  | _, _ => none
theorem impl_InsOk_D_ok {vs : List V} {W : Heap Row} {a : GIns} (h : impl_InsOk_D vs W = some a) : vs = [.a [.int .i64 (a).op, .int .i64 (a).r, .int .i64 (a).a, .int .i64 (a).b, .int .i64 (a).n]] ∧ W = [] := by
  unfold impl_InsOk_D at h
  split at h
  · simp at h; subst h; exact ⟨rfl, rfl⟩
  · simp at h
noncomputable def impl_InsOk_C : Callee Row := ⟨[], fun _ vs W K => (impl_InsOk_D vs W).bind fun a => (impl_InsOk a).bind fun r => K (.c (.bool r)) []⟩
theorem impl_InsOk_ok : CalleeOk Try.prog rowU 152 impl_InsOk_C := by
  refine calleeP (nl := false) (m0 := 0) (T := [(125, impl_in_C), (220, impl_formOf_C), (221, impl_partOf_C), (222, impl_hasPart_C)]) (H := [(0, impl_InsOk_L0_H)]) (TabOk.cons impl_in_ok (TabOk.cons impl_formOf_ok (TabOk.cons impl_partOf_ok (TabOk.cons impl_hasPart_ok TabOk.nil)))) (by kernel_rfl) (by kernel_rfl) (fun p hp hb => by
    simp only [List.mem_cons, List.not_mem_nil, or_false] at hp
    subst hp
    exact impl_InsOk_L0_ok hb) fun ρ vs W K r h => ?_
  obtain ⟨a, ha, h1⟩ := Option.bind_eq_some_iff.1 h
  clear h
  obtain ⟨rfl, rfl⟩ := impl_InsOk_D_ok ha
  obtain ⟨q, hq, h2⟩ := Option.bind_eq_some_iff.1 h1
  exact ⟨_, _, h2, (impl_InsOk_nf a _ _).trans ((impl_InsOk_bind a _).trans (by rw [hq]; rfl))⟩
/-! loop.example/g00249/impl.CodeOk$1 -/
noncomputable def impl_CodeOk_1_K (x0 : GIns) {ρ : Type} (K : Bool → Option ρ) : Option ρ :=
  Option.bind (impl_InsOk x0) fun r1 =>
  K (!r1)
noncomputable def impl_CodeOk_1 (x0 : GIns) : Option (Bool) := impl_CodeOk_1_K x0 some
theorem impl_CodeOk_1_bind (x0 : GIns) {ρ : Type} (K : Bool → Option ρ) : impl_CodeOk_1_K x0 K = (impl_CodeOk_1 x0).bind K := by
  simp only [impl_CodeOk_1, impl_CodeOk_1_K, Option.bind_assoc, Option.bind_some, Option.bind_none, cond_bind, sumK_bind]
noncomputable def impl_CodeOk_1_E : Env Row := envN false 151 0 [(152, impl_InsOk_C)] []
theorem impl_CodeOk_1_nf (x0 : GIns) (ρ : Type) (K : V → Heap Row → Option ρ) : evBody rowU impl_CodeOk_1_E (bodyC 151) [.a [.int .i64 x0.op, .int .i64 x0.r, .int .i64 x0.a, .int .i64 x0.b, .int .i64 x0.n]] [] K = impl_CodeOk_1_K x0 (fun r => K (.c (.bool r)) []) := by kernel_rfl
def impl_CodeOk_1_D : List V → Heap Row → Option (GIns)
  | [.a (.int .i64 v1 :: .int .i64 v2 :: .int .i64 v3 :: .int .i64 v4 :: .int .i64 v5 :: [])], [] => some (⟨v1, v2, v3, v4, v5⟩)
  | _, _ => none
theorem impl_CodeOk_1_D_ok {vs : List V} {W : Heap Row} {a : GIns} (h : impl_CodeOk_1_D vs W = some a) : vs = [.a [.int .i64 (a).op, .int .i64 (a).r, .int .i64 (a).a, .int .i64 (a).b, .int .i64 (a).n]] ∧ W = [] := by
  unfold impl_CodeOk_1_D at h
  split at h
  · simp at h; subst h; exact ⟨rfl, rfl⟩
  · simp at h
noncomputable def impl_CodeOk_1_C : Callee Row := ⟨[], fun _ vs W K => (impl_CodeOk_1_D vs W).bind fun a => (impl_CodeOk_1 a).bind fun r => K (.c (.bool r)) []⟩
theorem impl_CodeOk_1_ok : CalleeOk Try.prog rowU 151 impl_CodeOk_1_C := by
  refine calleeP (nl := false) (m0 := 0) (T := [(152, impl_InsOk_C)]) (H := []) (TabOk.cons impl_InsOk_ok TabOk.nil) (by kernel_rfl) (by kernel_rfl) (fun p hp => nomatch hp) fun ρ vs W K r h => ?_
  obtain ⟨a, ha, h1⟩ := Option.bind_eq_some_iff.1 h
  clear h
  obtain ⟨rfl, rfl⟩ := impl_CodeOk_1_D_ok ha
  obtain ⟨q, hq, h2⟩ := Option.bind_eq_some_iff.1 h1
  exact ⟨_, _, h2, (impl_CodeOk_1_nf a _ _).trans ((impl_CodeOk_1_bind a _).trans (by rw [hq]; rfl))⟩
/-! slices.IndexFunc[[]loop.example/g00249/impl.Ins,loop.example/g00249/impl.Ins] -/
noncomputable def slices_IndexFunc_151_L0_K (l0 : List GIns) (n1 : Int) (n2 : Int) {ρ : Type} (A : Int → Option ρ) (X : Unit → Option ρ) (R : Int → Option ρ) : Option ρ :=
  cond (decide (n2 < n1))
    (cond (decide (0 ≤ n2)) (cond (decide (n2 < (((l0.length : Nat) : Int)))) (Option.bind (impl_CodeOk_1 (List.getD l0 (n2.toNat) (default))) fun r1 =>
    cond r1
      (R n2)
      (A (w64 (n2 + 1)))) none) none)
    (X ())
noncomputable def slices_IndexFunc_151_L0_step (l0 : List GIns) (n1 : Int) (s : Int) : Option (Rnd (Int) (Unit) (Int)) := slices_IndexFunc_151_L0_K l0 n1 s (fun s => some (.again s)) (fun t => some (.exit t)) (fun k => some (.ret k))
theorem slices_IndexFunc_151_L0_bind (l0 : List GIns) (n1 : Int) (s : Int) {ρ : Type} (A : Int → Option ρ) (X : Unit → Option ρ) (R : Int → Option ρ) : slices_IndexFunc_151_L0_K l0 n1 s A X R = (slices_IndexFunc_151_L0_step l0 n1 s).bind (rndE A X R) := by
  simp only [slices_IndexFunc_151_L0_step, slices_IndexFunc_151_L0_K, Option.bind_assoc, Option.bind_some, Option.bind_none, cond_bind, sumK_bind, rndE_again, rndE_exit, rndE_ret]
def slices_IndexFunc_151_L0_st (p : List GIns × Int) (s : Int) : List V × Heap Row := ([.c (.sl 0 0), .c (.fn 151 []), .c (.int .i64 (p.2)), .c (.int .i64 (s))], [⟨.row ⟨.ins, p.1⟩, 0, 1⟩])
def slices_IndexFunc_151_L0_so (p : List GIns × Int) (t : Unit) : List V × Heap Row := ([], [⟨.row ⟨.ins, p.1⟩, 0, 1⟩])
def slices_IndexFunc_151_L0_sr (p : List GIns × Int) (k : Int) : List V × Heap Row := ([.c (.int .i64 (k))], [⟨.row ⟨.ins, p.1⟩, 0, 1⟩])
def slices_IndexFunc_151_L0_D : List V → Heap Row → Option ((List GIns × Int) × (Int))
  | [.c (.sl 0 0), .c (.fn 151 []), .c (.int .i64 v1), .c (.int .i64 v2)], [⟨.row ⟨.ins, v3⟩, 0, 1⟩] => some ((v3, v1), (v2))
  | _, _ => none
theorem slices_IndexFunc_151_L0_D_ok (vs : List V) (L : Heap Row) (p : List GIns × Int) (s : Int) (h : slices_IndexFunc_151_L0_D vs L = some (p, s)) : slices_IndexFunc_151_L0_st p s = (vs, L) := by
  unfold slices_IndexFunc_151_L0_D at h
  split at h
  · simp at h; obtain ⟨rfl, rfl⟩ := h; rfl
  · simp at h
noncomputable def slices_IndexFunc_151_L0_H : LoopH Row := loopR [0, 1, 7, 8] [] slices_IndexFunc_151_L0_D (fun p => slices_IndexFunc_151_L0_step (p.1) (p.2)) slices_IndexFunc_151_L0_so slices_IndexFunc_151_L0_sr
theorem slices_IndexFunc_151_L0_nf (p : List GIns × Int) (s : Int) (ρ : Type) (again Kx Kr : List V → Heap Row → Option ρ) : evRound rowU (envOf 219 1 [(151, impl_CodeOk_1_C)] [(0, slices_IndexFunc_151_L0_H)]) 0 slices_IndexFunc_151_L0_H (loopC 219 0) again (slices_IndexFunc_151_L0_st p s).1 (slices_IndexFunc_151_L0_st p s).2 Kx Kr = slices_IndexFunc_151_L0_K (p.1) (p.2) s (fun s => again (slices_IndexFunc_151_L0_st p s).1 (slices_IndexFunc_151_L0_st p s).2) (fun t => Kx (slices_IndexFunc_151_L0_so p t).1 (slices_IndexFunc_151_L0_so p t).2) (fun k => Kr (slices_IndexFunc_151_L0_sr p k).1 (slices_IndexFunc_151_L0_sr p k).2) := by kernel_rfl
theorem slices_IndexFunc_151_L0_ok (hb : LoopsOk Try.prog rowU (envOf 219 1 [(151, impl_CodeOk_1_C)] [(0, slices_IndexFunc_151_L0_H)]) (loopAt (codeP 219) 0)) : LoopOk Try.prog rowU (envOf 219 1 [(151, impl_CodeOk_1_C)] [(0, slices_IndexFunc_151_L0_H)]) 0 (loopAt (codeP 219) 0) slices_IndexFunc_151_L0_H :=
  loopR_ok tagOk mixed envNl (envT (TabOk.cons impl_CodeOk_1_ok TabOk.nil)) hb slices_IndexFunc_151_L0_st slices_IndexFunc_151_L0_D_ok fun p s ρ A Kx Kr => (slices_IndexFunc_151_L0_nf p s ρ A Kx Kr).trans (slices_IndexFunc_151_L0_bind (p.1) (p.2) s _ _ _)
noncomputable def slices_IndexFunc_151_K (x0 : List GIns) {ρ : Type} (K : Int → Option ρ) : Option ρ :=
  Option.bind (runL (slices_IndexFunc_151_L0_step x0 (((x0.length : Nat) : Int))) 0) fun ot2 => sumK ot2
    (fun t2 => K (-1))
    (fun k3 => K k3)
noncomputable def slices_IndexFunc_151 (x0 : List GIns) : Option (Int) := slices_IndexFunc_151_K x0 some
theorem slices_IndexFunc_151_bind (x0 : List GIns) {ρ : Type} (K : Int → Option ρ) : slices_IndexFunc_151_K x0 K = (slices_IndexFunc_151 x0).bind K := by
  simp only [slices_IndexFunc_151, slices_IndexFunc_151_K, Option.bind_assoc, Option.bind_some, Option.bind_none, cond_bind, sumK_bind]
noncomputable def slices_IndexFunc_151_E : Env Row := envN false 219 1 [(151, impl_CodeOk_1_C)] [(0, slices_IndexFunc_151_L0_H)]
theorem slices_IndexFunc_151_nf (x0 : List GIns) (ρ : Type) (K : V → Heap Row → Option ρ) : evBody rowU slices_IndexFunc_151_E (bodyC 219) [.c (.sl 0 0), .c (.fn 151 [])] [⟨.row ⟨.ins, x0⟩, 0, 1⟩] K = slices_IndexFunc_151_K x0 (fun r => K (.c (.int .i64 r)) [⟨.row ⟨.ins, x0⟩, 0, 1⟩]) := by kernel_rfl
def slices_IndexFunc_151_D : List V → Heap Row → Option (List GIns)
  | [.c (.sl 0 0), .c (.fn 151 [])], [⟨.row ⟨.ins, v1⟩, 0, 1⟩] => some (v1)
  | _, _ => none
theorem slices_IndexFunc_151_D_ok {vs : List V} {W : Heap Row} {a : List GIns} (h : slices_IndexFunc_151_D vs W = some a) : vs = [.c (.sl 0 0), .c (.fn 151 [])] ∧ W = [⟨.row ⟨.ins, a⟩, 0, 1⟩] := by
  unfold slices_IndexFunc_151_D at h
  split at h
  · simp at h; subst h; exact ⟨rfl, rfl⟩
  · simp at h
noncomputable def slices_IndexFunc_151_C : Callee Row := ⟨[(false, 0)], fun _ vs W K => (slices_IndexFunc_151_D vs W).bind fun a => (slices_IndexFunc_151 a).bind fun r => K (.c (.int .i64 r)) [⟨.row ⟨.ins, a⟩, 0, 1⟩]⟩
theorem slices_IndexFunc_151_ok : CalleeOk Try.prog rowU 219 slices_IndexFunc_151_C := by
  refine calleeP (nl := false) (m0 := 1) (T := [(151, impl_CodeOk_1_C)]) (H := [(0, slices_IndexFunc_151_L0_H)]) (TabOk.cons impl_CodeOk_1_ok TabOk.nil) (by kernel_rfl) (by kernel_rfl) (fun p hp hb => by
    simp only [List.mem_cons, List.not_mem_nil, or_false] at hp
    subst hp
    exact slices_IndexFunc_151_L0_ok hb) fun ρ vs W K r h => ?_
  obtain ⟨a, ha, h1⟩ := Option.bind_eq_some_iff.1 h
  clear h
  obtain ⟨rfl, rfl⟩ := slices_IndexFunc_151_D_ok ha
  obtain ⟨q, hq, h2⟩ := Option.bind_eq_some_iff.1 h1
  exact ⟨_, _, h2, (slices_IndexFunc_151_nf a _ _).trans ((slices_IndexFunc_151_bind a _).trans (by rw [hq]; rfl))⟩
/-! slices.ContainsFunc[[]loop.example/g00249/impl.Ins,loop.example/g00249/impl.Ins] -/
noncomputable def slices_ContainsFunc_151_K (x0 : List GIns) {ρ : Type} (K : Bool → Option ρ) : Option ρ :=
  Option.bind (slices_IndexFunc_151 x0) fun r1 =>
  K (decide (r1 ≥ 0))
noncomputable def slices_ContainsFunc_151 (x0 : List GIns) : Option (Bool) := slices_ContainsFunc_151_K x0 some
theorem slices_ContainsFunc_151_bind (x0 : List GIns) {ρ : Type} (K : Bool → Option ρ) : slices_ContainsFunc_151_K x0 K = (slices_ContainsFunc_151 x0).bind K := by
  simp only [slices_ContainsFunc_151, slices_ContainsFunc_151_K, Option.bind_assoc, Option.bind_some, Option.bind_none, cond_bind, sumK_bind]
noncomputable def slices_ContainsFunc_151_E : Env Row := envN false 150 1 [(219, slices_IndexFunc_151_C)] []
theorem slices_ContainsFunc_151_nf (x0 : List GIns) (ρ : Type) (K : V → Heap Row → Option ρ) : evBody rowU slices_ContainsFunc_151_E (bodyC 150) [.c (.sl 0 0), .c (.fn 151 [])] [⟨.row ⟨.ins, x0⟩, 0, 1⟩] K = slices_ContainsFunc_151_K x0 (fun r => K (.c (.bool r)) [⟨.row ⟨.ins, x0⟩, 0, 1⟩]) := by kernel_rfl
def slices_ContainsFunc_151_D : List V → Heap Row → Option (List GIns)
  | [.c (.sl 0 0), .c (.fn 151 [])], [⟨.row ⟨.ins, v1⟩, 0, 1⟩] => some (v1)
  | _, _ => none
theorem slices_ContainsFunc_151_D_ok {vs : List V} {W : Heap Row} {a : List GIns} (h : slices_ContainsFunc_151_D vs W = some a) : vs = [.c (.sl 0 0), .c (.fn 151 [])] ∧ W = [⟨.row ⟨.ins, a⟩, 0, 1⟩] := by
  unfold slices_ContainsFunc_151_D at h
  split at h
  · simp at h; subst h; exact ⟨rfl, rfl⟩
  · simp at h
noncomputable def slices_ContainsFunc_151_C : Callee Row := ⟨[(false, 0)], fun _ vs W K => (slices_ContainsFunc_151_D vs W).bind fun a => (slices_ContainsFunc_151 a).bind fun r => K (.c (.bool r)) [⟨.row ⟨.ins, a⟩, 0, 1⟩]⟩
theorem slices_ContainsFunc_151_ok : CalleeOk Try.prog rowU 150 slices_ContainsFunc_151_C := by
  refine calleeP (nl := false) (m0 := 1) (T := [(219, slices_IndexFunc_151_C)]) (H := []) (TabOk.cons slices_IndexFunc_151_ok TabOk.nil) (by kernel_rfl) (by kernel_rfl) (fun p hp => nomatch hp) fun ρ vs W K r h => ?_
  obtain ⟨a, ha, h1⟩ := Option.bind_eq_some_iff.1 h
  clear h
  obtain ⟨rfl, rfl⟩ := slices_ContainsFunc_151_D_ok ha
  obtain ⟨q, hq, h2⟩ := Option.bind_eq_some_iff.1 h1
  exact ⟨_, _, h2, (slices_ContainsFunc_151_nf a _ _).trans ((slices_ContainsFunc_151_bind a _).trans (by rw [hq]; rfl))⟩
/-! loop.example/g00249/impl.CodeOk -/
noncomputable def impl_CodeOk_K (x0 : List GIns) {ρ : Type} (K : Bool → Option ρ) : Option ρ :=
  Option.bind (impl_in (((x0.length : Nat) : Int)) 1 48) fun r1 =>
  cond (r1 == true)
    (Option.bind (slices_ContainsFunc_151 x0) fun r2 =>
    K (!r2))
    (K false)
noncomputable def impl_CodeOk (x0 : List GIns) : Option (Bool) := impl_CodeOk_K x0 some
theorem impl_CodeOk_bind (x0 : List GIns) {ρ : Type} (K : Bool → Option ρ) : impl_CodeOk_K x0 K = (impl_CodeOk x0).bind K := by
  simp only [impl_CodeOk, impl_CodeOk_K, Option.bind_assoc, Option.bind_some, Option.bind_none, cond_bind, sumK_bind]
noncomputable def impl_CodeOk_E : Env Row := envN false 56 1 [(125, impl_in_C), (150, slices_ContainsFunc_151_C)] []
theorem impl_CodeOk_nf (x0 : List GIns) (ρ : Type) (K : V → Heap Row → Option ρ) : evBody rowU impl_CodeOk_E (bodyC 56) [.c (.sl 0 0)] [⟨.row ⟨.ins, x0⟩, 0, 1⟩] K = impl_CodeOk_K x0 (fun r => K (.c (.bool r)) [⟨.row ⟨.ins, x0⟩, 0, 1⟩]) := by kernel_rfl
def impl_CodeOk_D : List V → Heap Row → Option (List GIns)
  | [.c (.sl 0 0)], [⟨.row ⟨.ins, v1⟩, 0, 1⟩] => some (v1)
  | _, _ => none
theorem impl_CodeOk_D_ok {vs : List V} {W : Heap Row} {a : List GIns} (h : impl_CodeOk_D vs W = some a) : vs = [.c (.sl 0 0)] ∧ W = [⟨.row ⟨.ins, a⟩, 0, 1⟩] := by
  unfold impl_CodeOk_D at h
  split at h
  · simp at h; subst h; exact ⟨rfl, rfl⟩
  · simp at h
noncomputable def impl_CodeOk_C : Callee Row := ⟨[(false, 0)], fun _ vs W K => (impl_CodeOk_D vs W).bind fun a => (impl_CodeOk a).bind fun r => K (.c (.bool r)) [⟨.row ⟨.ins, a⟩, 0, 1⟩]⟩
theorem impl_CodeOk_ok : CalleeOk Try.prog rowU 56 impl_CodeOk_C := by
  refine calleeP (nl := false) (m0 := 1) (T := [(125, impl_in_C), (150, slices_ContainsFunc_151_C)]) (H := []) (TabOk.cons impl_in_ok (TabOk.cons slices_ContainsFunc_151_ok TabOk.nil)) (by kernel_rfl) (by kernel_rfl) (fun p hp => nomatch hp) fun ρ vs W K r h => ?_
  obtain ⟨a, ha, h1⟩ := Option.bind_eq_some_iff.1 h
  clear h
  obtain ⟨rfl, rfl⟩ := impl_CodeOk_D_ok ha
  obtain ⟨q, hq, h2⟩ := Option.bind_eq_some_iff.1 h1
  exact ⟨_, _, h2, (impl_CodeOk_nf a _ _).trans ((impl_CodeOk_bind a _).trans (by rw [hq]; rfl))⟩
/-! math/bits.Len64 -/
def math_bits_Len64_K (x0 : Int) {ρ : Type} (K : Int → Option ρ) : Option ρ :=
  cond (decide (x0 ≥ 4294967296))
    (cond (decide ((Int.fdiv x0 4294967296) ≥ 65536))
      (cond (decide ((Int.fdiv (Int.fdiv x0 4294967296) 65536) ≥ 256))
        (cond (decide (0 ≤ (IntKind.wrap .u8 (Int.fdiv (Int.fdiv (Int.fdiv x0 4294967296) 65536) 256)))) (cond (decide ((IntKind.wrap .u8 (Int.fdiv (Int.fdiv (Int.fdiv x0 4294967296) 65536) 256)) < 256)) (K (w64 (56 + (w64 (byteAt (⟨#[0, 1, 2, 2, 3, 3, 3, 3, 4, 4, 4, 4, 4, 4, 4, 4, 5, 5, 5, 5, 5, 5, 5, 5, 5, 5, 5, 5, 5, 5, 5, 5, 6, 6, 6, 6, 6, 6, 6, 6, 6, 6, 6, 6, 6, 6, 6, 6, 6, 6, 6, 6, 6, 6, 6, 6, 6, 6, 6, 6, 6, 6, 6, 6, 7, 7, 7, 7, 7, 7, 7, 7, 7, 7, 7, 7, 7, 7, 7, 7, 7, 7, 7, 7, 7, 7, 7, 7, 7, 7, 7, 7, 7, 7, 7, 7, 7, 7, 7, 7, 7, 7, 7, 7, 7, 7, 7, 7, 7, 7, 7, 7, 7, 7, 7, 7, 7, 7, 7, 7, 7, 7, 7, 7, 7, 7, 7, 7, 8, 8, 8, 8, 8, 8, 8, 8, 8, 8, 8, 8, 8, 8, 8, 8, 8, 8, 8, 8, 8, 8, 8, 8, 8, 8, 8, 8, 8, 8, 8, 8, 8, 8, 8, 8, 8, 8, 8, 8, 8, 8, 8, 8, 8, 8, 8, 8, 8, 8, 8, 8, 8, 8, 8, 8, 8, 8, 8, 8, 8, 8, 8, 8, 8, 8, 8, 8, 8, 8, 8, 8, 8, 8, 8, 8, 8, 8, 8, 8, 8, 8, 8, 8, 8, 8, 8, 8, 8, 8, 8, 8, 8, 8, 8, 8, 8, 8, 8, 8, 8, 8, 8, 8, 8, 8, 8, 8, 8, 8, 8, 8, 8, 8, 8, 8, 8, 8, 8, 8, 8, 8, 8, 8, 8, 8, 8, 8]⟩) ((IntKind.wrap .u8 (Int.fdiv (Int.fdiv (Int.fdiv x0 4294967296) 65536) 256)).toNat)))))) none) none)
        (cond (decide (0 ≤ (IntKind.wrap .u8 (Int.fdiv (Int.fdiv x0 4294967296) 65536)))) (cond (decide ((IntKind.wrap .u8 (Int.fdiv (Int.fdiv x0 4294967296) 65536)) < 256)) (K (w64 (48 + (w64 (byteAt (⟨#[0, 1, 2, 2, 3, 3, 3, 3, 4, 4, 4, 4, 4, 4, 4, 4, 5, 5, 5, 5, 5, 5, 5, 5, 5, 5, 5, 5, 5, 5, 5, 5, 6, 6, 6, 6, 6, 6, 6, 6, 6, 6, 6, 6, 6, 6, 6, 6, 6, 6, 6, 6, 6, 6, 6, 6, 6, 6, 6, 6, 6, 6, 6, 6, 7, 7, 7, 7, 7, 7, 7, 7, 7, 7, 7, 7, 7, 7, 7, 7, 7, 7, 7, 7, 7, 7, 7, 7, 7, 7, 7, 7, 7, 7, 7, 7, 7, 7, 7, 7, 7, 7, 7, 7, 7, 7, 7, 7, 7, 7, 7, 7, 7, 7, 7, 7, 7, 7, 7, 7, 7, 7, 7, 7, 7, 7, 7, 7, 8, 8, 8, 8, 8, 8, 8, 8, 8, 8, 8, 8, 8, 8, 8, 8, 8, 8, 8, 8, 8, 8, 8, 8, 8, 8, 8, 8, 8, 8, 8, 8, 8, 8, 8, 8, 8, 8, 8, 8, 8, 8, 8, 8, 8, 8, 8, 8, 8, 8, 8, 8, 8, 8, 8, 8, 8, 8, 8, 8, 8, 8, 8, 8, 8, 8, 8, 8, 8, 8, 8, 8, 8, 8, 8, 8, 8, 8, 8, 8, 8, 8, 8, 8, 8, 8, 8, 8, 8, 8, 8, 8, 8, 8, 8, 8, 8, 8, 8, 8, 8, 8, 8, 8, 8, 8, 8, 8, 8, 8, 8, 8, 8, 8, 8, 8, 8, 8, 8, 8, 8, 8, 8, 8, 8, 8, 8, 8]⟩) ((IntKind.wrap .u8 (Int.fdiv (Int.fdiv x0 4294967296) 65536)).toNat)))))) none) none))
      (cond (decide ((Int.fdiv x0 4294967296) ≥ 256))
        (cond (decide (0 ≤ (IntKind.wrap .u8 (Int.fdiv (Int.fdiv x0 4294967296) 256)))) (cond (decide ((IntKind.wrap .u8 (Int.fdiv (Int.fdiv x0 4294967296) 256)) < 256)) (K (w64 (40 + (w64 (byteAt (⟨#[0, 1, 2, 2, 3, 3, 3, 3, 4, 4, 4, 4, 4, 4, 4, 4, 5, 5, 5, 5, 5, 5, 5, 5, 5, 5, 5, 5, 5, 5, 5, 5, 6, 6, 6, 6, 6, 6, 6, 6, 6, 6, 6, 6, 6, 6, 6, 6, 6, 6, 6, 6, 6, 6, 6, 6, 6, 6, 6, 6, 6, 6, 6, 6, 7, 7, 7, 7, 7, 7, 7, 7, 7, 7, 7, 7, 7, 7, 7, 7, 7, 7, 7, 7, 7, 7, 7, 7, 7, 7, 7, 7, 7, 7, 7, 7, 7, 7, 7, 7, 7, 7, 7, 7, 7, 7, 7, 7, 7, 7, 7, 7, 7, 7, 7, 7, 7, 7, 7, 7, 7, 7, 7, 7, 7, 7, 7, 7, 8, 8, 8, 8, 8, 8, 8, 8, 8, 8, 8, 8, 8, 8, 8, 8, 8, 8, 8, 8, 8, 8, 8, 8, 8, 8, 8, 8, 8, 8, 8, 8, 8, 8, 8, 8, 8, 8, 8, 8, 8, 8, 8, 8, 8, 8, 8, 8, 8, 8, 8, 8, 8, 8, 8, 8, 8, 8, 8, 8, 8, 8, 8, 8, 8, 8, 8, 8, 8, 8, 8, 8, 8, 8, 8, 8, 8, 8, 8, 8, 8, 8, 8, 8, 8, 8, 8, 8, 8, 8, 8, 8, 8, 8, 8, 8, 8, 8, 8, 8, 8, 8, 8, 8, 8, 8, 8, 8, 8, 8, 8, 8, 8, 8, 8, 8, 8, 8, 8, 8, 8, 8, 8, 8, 8, 8, 8, 8]⟩) ((IntKind.wrap .u8 (Int.fdiv (Int.fdiv x0 4294967296) 256)).toNat)))))) none) none)
        (cond (decide (0 ≤ (IntKind.wrap .u8 (Int.fdiv x0 4294967296)))) (cond (decide ((IntKind.wrap .u8 (Int.fdiv x0 4294967296)) < 256)) (K (w64 (32 + (w64 (byteAt (⟨#[0, 1, 2, 2, 3, 3, 3, 3, 4, 4, 4, 4, 4, 4, 4, 4, 5, 5, 5, 5, 5, 5, 5, 5, 5, 5, 5, 5, 5, 5, 5, 5, 6, 6, 6, 6, 6, 6, 6, 6, 6, 6, 6, 6, 6, 6, 6, 6, 6, 6, 6, 6, 6, 6, 6, 6, 6, 6, 6, 6, 6, 6, 6, 6, 7, 7, 7, 7, 7, 7, 7, 7, 7, 7, 7, 7, 7, 7, 7, 7, 7, 7, 7, 7, 7, 7, 7, 7, 7, 7, 7, 7, 7, 7, 7, 7, 7, 7, 7, 7, 7, 7, 7, 7, 7, 7, 7, 7, 7, 7, 7, 7, 7, 7, 7, 7, 7, 7, 7, 7, 7, 7, 7, 7, 7, 7, 7, 7, 8, 8, 8, 8, 8, 8, 8, 8, 8, 8, 8, 8, 8, 8, 8, 8, 8, 8, 8, 8, 8, 8, 8, 8, 8, 8, 8, 8, 8, 8, 8, 8, 8, 8, 8, 8, 8, 8, 8, 8, 8, 8, 8, 8, 8, 8, 8, 8, 8, 8, 8, 8, 8, 8, 8, 8, 8, 8, 8, 8, 8, 8, 8, 8, 8, 8, 8, 8, 8, 8, 8, 8, 8, 8, 8, 8, 8, 8, 8, 8, 8, 8, 8, 8, 8, 8, 8, 8, 8, 8, 8, 8, 8, 8, 8, 8, 8, 8, 8, 8, 8, 8, 8, 8, 8, 8, 8, 8, 8, 8, 8, 8, 8, 8, 8, 8, 8, 8, 8, 8, 8, 8, 8, 8, 8, 8, 8, 8]⟩) ((IntKind.wrap .u8 (Int.fdiv x0 4294967296)).toNat)))))) none) none)))
    (cond (decide (x0 ≥ 65536))
      (cond (decide ((Int.fdiv x0 65536) ≥ 256))
        (cond (decide (0 ≤ (IntKind.wrap .u8 (Int.fdiv (Int.fdiv x0 65536) 256)))) (cond (decide ((IntKind.wrap .u8 (Int.fdiv (Int.fdiv x0 65536) 256)) < 256)) (K (w64 (24 + (w64 (byteAt (⟨#[0, 1, 2, 2, 3, 3, 3, 3, 4, 4, 4, 4, 4, 4, 4, 4, 5, 5, 5, 5, 5, 5, 5, 5, 5, 5, 5, 5, 5, 5, 5, 5, 6, 6, 6, 6, 6, 6, 6, 6, 6, 6, 6, 6, 6, 6, 6, 6, 6, 6, 6, 6, 6, 6, 6, 6, 6, 6, 6, 6, 6, 6, 6, 6, 7, 7, 7, 7, 7, 7, 7, 7, 7, 7, 7, 7, 7, 7, 7, 7, 7, 7, 7, 7, 7, 7, 7, 7, 7, 7, 7, 7, 7, 7, 7, 7, 7, 7, 7, 7, 7, 7, 7, 7, 7, 7, 7, 7, 7, 7, 7, 7, 7, 7, 7, 7, 7, 7, 7, 7, 7, 7, 7, 7, 7, 7, 7, 7, 8, 8, 8, 8, 8, 8, 8, 8, 8, 8, 8, 8, 8, 8, 8, 8, 8, 8, 8, 8, 8, 8, 8, 8, 8, 8, 8, 8, 8, 8, 8, 8, 8, 8, 8, 8, 8, 8, 8, 8, 8, 8, 8, 8, 8, 8, 8, 8, 8, 8, 8, 8, 8, 8, 8, 8, 8, 8, 8, 8, 8, 8, 8, 8, 8, 8, 8, 8, 8, 8, 8, 8, 8, 8, 8, 8, 8, 8, 8, 8, 8, 8, 8, 8, 8, 8, 8, 8, 8, 8, 8, 8, 8, 8, 8, 8, 8, 8, 8, 8, 8, 8, 8, 8, 8, 8, 8, 8, 8, 8, 8, 8, 8, 8, 8, 8, 8, 8, 8, 8, 8, 8, 8, 8, 8, 8, 8, 8]⟩) ((IntKind.wrap .u8 (Int.fdiv (Int.fdiv x0 65536) 256)).toNat)))))) none) none)
        (cond (decide (0 ≤ (IntKind.wrap .u8 (Int.fdiv x0 65536)))) (cond (decide ((IntKind.wrap .u8 (Int.fdiv x0 65536)) < 256)) (K (w64 (16 + (w64 (byteAt (⟨#[0, 1, 2, 2, 3, 3, 3, 3, 4, 4, 4, 4, 4, 4, 4, 4, 5, 5, 5, 5, 5, 5, 5, 5, 5, 5, 5, 5, 5, 5, 5, 5, 6, 6, 6, 6, 6, 6, 6, 6, 6, 6, 6, 6, 6, 6, 6, 6, 6, 6, 6, 6, 6, 6, 6, 6, 6, 6, 6, 6, 6, 6, 6, 6, 7, 7, 7, 7, 7, 7, 7, 7, 7, 7, 7, 7, 7, 7, 7, 7, 7, 7, 7, 7, 7, 7, 7, 7, 7, 7, 7, 7, 7, 7, 7, 7, 7, 7, 7, 7, 7, 7, 7, 7, 7, 7, 7, 7, 7, 7, 7, 7, 7, 7, 7, 7, 7, 7, 7, 7, 7, 7, 7, 7, 7, 7, 7, 7, 8, 8, 8, 8, 8, 8, 8, 8, 8, 8, 8, 8, 8, 8, 8, 8, 8, 8, 8, 8, 8, 8, 8, 8, 8, 8, 8, 8, 8, 8, 8, 8, 8, 8, 8, 8, 8, 8, 8, 8, 8, 8, 8, 8, 8, 8, 8, 8, 8, 8, 8, 8, 8, 8, 8, 8, 8, 8, 8, 8, 8, 8, 8, 8, 8, 8, 8, 8, 8, 8, 8, 8, 8, 8, 8, 8, 8, 8, 8, 8, 8, 8, 8, 8, 8, 8, 8, 8, 8, 8, 8, 8, 8, 8, 8, 8, 8, 8, 8, 8, 8, 8, 8, 8, 8, 8, 8, 8, 8, 8, 8, 8, 8, 8, 8, 8, 8, 8, 8, 8, 8, 8, 8, 8, 8, 8, 8, 8]⟩) ((IntKind.wrap .u8 (Int.fdiv x0 65536)).toNat)))))) none) none))
      (cond (decide (x0 ≥ 256))
        (cond (decide (0 ≤ (IntKind.wrap .u8 (Int.fdiv x0 256)))) (cond (decide ((IntKind.wrap .u8 (Int.fdiv x0 256)) < 256)) (K (w64 (8 + (w64 (byteAt (⟨#[0, 1, 2, 2, 3, 3, 3, 3, 4, 4, 4, 4, 4, 4, 4, 4, 5, 5, 5, 5, 5, 5, 5, 5, 5, 5, 5, 5, 5, 5, 5, 5, 6, 6, 6, 6, 6, 6, 6, 6, 6, 6, 6, 6, 6, 6, 6, 6, 6, 6, 6, 6, 6, 6, 6, 6, 6, 6, 6, 6, 6, 6, 6, 6, 7, 7, 7, 7, 7, 7, 7, 7, 7, 7, 7, 7, 7, 7, 7, 7, 7, 7, 7, 7, 7, 7, 7, 7, 7, 7, 7, 7, 7, 7, 7, 7, 7, 7, 7, 7, 7, 7, 7, 7, 7, 7, 7, 7, 7, 7, 7, 7, 7, 7, 7, 7, 7, 7, 7, 7, 7, 7, 7, 7, 7, 7, 7, 7, 8, 8, 8, 8, 8, 8, 8, 8, 8, 8, 8, 8, 8, 8, 8, 8, 8, 8, 8, 8, 8, 8, 8, 8, 8, 8, 8, 8, 8, 8, 8, 8, 8, 8, 8, 8, 8, 8, 8, 8, 8, 8, 8, 8, 8, 8, 8, 8, 8, 8, 8, 8, 8, 8, 8, 8, 8, 8, 8, 8, 8, 8, 8, 8, 8, 8, 8, 8, 8, 8, 8, 8, 8, 8, 8, 8, 8, 8, 8, 8, 8, 8, 8, 8, 8, 8, 8, 8, 8, 8, 8, 8, 8, 8, 8, 8, 8, 8, 8, 8, 8, 8, 8, 8, 8, 8, 8, 8, 8, 8, 8, 8, 8, 8, 8, 8, 8, 8, 8, 8, 8, 8, 8, 8, 8, 8, 8, 8]⟩) ((IntKind.wrap .u8 (Int.fdiv x0 256)).toNat)))))) none) none)
        (cond (decide (0 ≤ (IntKind.wrap .u8 x0))) (cond (decide ((IntKind.wrap .u8 x0) < 256)) (K (w64 (0 + (w64 (byteAt (⟨#[0, 1, 2, 2, 3, 3, 3, 3, 4, 4, 4, 4, 4, 4, 4, 4, 5, 5, 5, 5, 5, 5, 5, 5, 5, 5, 5, 5, 5, 5, 5, 5, 6, 6, 6, 6, 6, 6, 6, 6, 6, 6, 6, 6, 6, 6, 6, 6, 6, 6, 6, 6, 6, 6, 6, 6, 6, 6, 6, 6, 6, 6, 6, 6, 7, 7, 7, 7, 7, 7, 7, 7, 7, 7, 7, 7, 7, 7, 7, 7, 7, 7, 7, 7, 7, 7, 7, 7, 7, 7, 7, 7, 7, 7, 7, 7, 7, 7, 7, 7, 7, 7, 7, 7, 7, 7, 7, 7, 7, 7, 7, 7, 7, 7, 7, 7, 7, 7, 7, 7, 7, 7, 7, 7, 7, 7, 7, 7, 8, 8, 8, 8, 8, 8, 8, 8, 8, 8, 8, 8, 8, 8, 8, 8, 8, 8, 8, 8, 8, 8, 8, 8, 8, 8, 8, 8, 8, 8, 8, 8, 8, 8, 8, 8, 8, 8, 8, 8, 8, 8, 8, 8, 8, 8, 8, 8, 8, 8, 8, 8, 8, 8, 8, 8, 8, 8, 8, 8, 8, 8, 8, 8, 8, 8, 8, 8, 8, 8, 8, 8, 8, 8, 8, 8, 8, 8, 8, 8, 8, 8, 8, 8, 8, 8, 8, 8, 8, 8, 8, 8, 8, 8, 8, 8, 8, 8, 8, 8, 8, 8, 8, 8, 8, 8, 8, 8, 8, 8, 8, 8, 8, 8, 8, 8, 8, 8, 8, 8, 8, 8, 8, 8, 8, 8, 8, 8]⟩) ((IntKind.wrap .u8 x0).toNat)))))) none) none)))
def math_bits_Len64 (x0 : Int) : Option (Int) := math_bits_Len64_K x0 some
theorem math_bits_Len64_bind (x0 : Int) {ρ : Type} (K : Int → Option ρ) : math_bits_Len64_K x0 K = (math_bits_Len64 x0).bind K := by
  simp only [math_bits_Len64, math_bits_Len64_K, Option.bind_assoc, Option.bind_some, Option.bind_none, cond_bind, sumK_bind]
noncomputable def math_bits_Len64_E : Env Row := envN false 270 0 [] []
theorem math_bits_Len64_nf (x0 : Int) (ρ : Type) (K : V → Heap Row → Option ρ) : evBody rowU math_bits_Len64_E (bodyC 270) [.c (.int .u64 x0)] [] K = math_bits_Len64_K x0 (fun r => K (.c (.int .i64 r)) []) := by kernel_rfl
def math_bits_Len64_D : List V → Heap Row → Option (Int)
  | [.c (.int .u64 v1)], [] => some (v1)
  | _, _ => none
theorem math_bits_Len64_D_ok {vs : List V} {W : Heap Row} {a : Int} (h : math_bits_Len64_D vs W = some a) : vs = [.c (.int .u64 (a))] ∧ W = [] := by
  unfold math_bits_Len64_D at h
  split at h
  · simp at h; subst h; exact ⟨rfl, rfl⟩
  · simp at h
def math_bits_Len64_C : Callee Row := ⟨[], fun _ vs W K => (math_bits_Len64_D vs W).bind fun a => (math_bits_Len64 a).bind fun r => K (.c (.int .i64 r)) []⟩
theorem math_bits_Len64_ok : CalleeOk Try.prog rowU 270 math_bits_Len64_C := by
  refine calleeP (nl := false) (m0 := 0) (T := []) (H := []) TabOk.nil (by kernel_rfl) (by kernel_rfl) (fun p hp => nomatch hp) fun ρ vs W K r h => ?_
  obtain ⟨a, ha, h1⟩ := Option.bind_eq_some_iff.1 h
  clear h
  obtain ⟨rfl, rfl⟩ := math_bits_Len64_D_ok ha
  obtain ⟨q, hq, h2⟩ := Option.bind_eq_some_iff.1 h1
  exact ⟨_, _, h2, (math_bits_Len64_nf a _ _).trans ((math_bits_Len64_bind a _).trans (by rw [hq]; rfl))⟩
/-! math/bits.Len -/
def math_bits_Len_K (x0 : Int) {ρ : Type} (K : Int → Option ρ) : Option ρ :=
  Option.bind (math_bits_Len64 x0) fun r1 =>
  K r1
def math_bits_Len (x0 : Int) : Option (Int) := math_bits_Len_K x0 some
theorem math_bits_Len_bind (x0 : Int) {ρ : Type} (K : Int → Option ρ) : math_bits_Len_K x0 K = (math_bits_Len x0).bind K := by
  simp only [math_bits_Len, math_bits_Len_K, Option.bind_assoc, Option.bind_some, Option.bind_none, cond_bind, sumK_bind]
noncomputable def math_bits_Len_E : Env Row := envN false 218 0 [(270, math_bits_Len64_C)] []
theorem math_bits_Len_nf (x0 : Int) (ρ : Type) (K : V → Heap Row → Option ρ) : evBody rowU math_bits_Len_E (bodyC 218) [.c (.int .u64 x0)] [] K = math_bits_Len_K x0 (fun r => K (.c (.int .i64 r)) []) := by kernel_rfl
def math_bits_Len_D : List V → Heap Row → Option (Int)
  | [.c (.int .u64 v1)], [] => some (v1)
  | _, _ => none
theorem math_bits_Len_D_ok {vs : List V} {W : Heap Row} {a : Int} (h : math_bits_Len_D vs W = some a) : vs = [.c (.int .u64 (a))] ∧ W = [] := by
  unfold math_bits_Len_D at h
  split at h
  · simp at h; subst h; exact ⟨rfl, rfl⟩
  · simp at h
def math_bits_Len_C : Callee Row := ⟨[], fun _ vs W K => (math_bits_Len_D vs W).bind fun a => (math_bits_Len a).bind fun r => K (.c (.int .i64 r)) []⟩
theorem math_bits_Len_ok : CalleeOk Try.prog rowU 218 math_bits_Len_C := by
  refine calleeP (nl := false) (m0 := 0) (T := [(270, math_bits_Len64_C)]) (H := []) (TabOk.cons math_bits_Len64_ok TabOk.nil) (by kernel_rfl) (by kernel_rfl) (fun p hp => nomatch hp) fun ρ vs W K r h => ?_
  obtain ⟨a, ha, h1⟩ := Option.bind_eq_some_iff.1 h
  clear h
  obtain ⟨rfl, rfl⟩ := math_bits_Len_D_ok ha
  obtain ⟨q, hq, h2⟩ := Option.bind_eq_some_iff.1 h1
  exact ⟨_, _, h2, (math_bits_Len_nf a _ _).trans ((math_bits_Len_bind a _).trans (by rw [hq]; rfl))⟩
/-! cmp.isNaN[int] -/
def cmp_isNaN_K (x0 : Int) {ρ : Type} (K : Bool → Option ρ) : Option ρ :=
  K (x0 != x0)
def cmp_isNaN (x0 : Int) : Option (Bool) := cmp_isNaN_K x0 some
theorem cmp_isNaN_bind (x0 : Int) {ρ : Type} (K : Bool → Option ρ) : cmp_isNaN_K x0 K = (cmp_isNaN x0).bind K := by
  simp only [cmp_isNaN, cmp_isNaN_K, Option.bind_assoc, Option.bind_some, Option.bind_none, cond_bind, sumK_bind]
noncomputable def cmp_isNaN_E : Env Row := envN false 301 0 [] []
theorem cmp_isNaN_nf (x0 : Int) (ρ : Type) (K : V → Heap Row → Option ρ) : evBody rowU cmp_isNaN_E (bodyC 301) [.c (.int .i64 x0)] [] K = cmp_isNaN_K x0 (fun r => K (.c (.bool r)) []) := by kernel_rfl
def cmp_isNaN_D : List V → Heap Row → Option (Int)
  | [.c (.int .i64 v1)], [] => some (v1)
  | _, _ => none
theorem cmp_isNaN_D_ok {vs : List V} {W : Heap Row} {a : Int} (h : cmp_isNaN_D vs W = some a) : vs = [.c (.int .i64 (a))] ∧ W = [] := by
  unfold cmp_isNaN_D at h
  split at h
  · simp at h; subst h; exact ⟨rfl, rfl⟩
  · simp at h
def cmp_isNaN_C : Callee Row := ⟨[], fun _ vs W K => (cmp_isNaN_D vs W).bind fun a => (cmp_isNaN a).bind fun r => K (.c (.bool r)) []⟩
theorem cmp_isNaN_ok : CalleeOk Try.prog rowU 301 cmp_isNaN_C := by
  refine calleeP (nl := false) (m0 := 0) (T := []) (H := []) TabOk.nil (by kernel_rfl) (by kernel_rfl) (fun p hp => nomatch hp) fun ρ vs W K r h => ?_
  obtain ⟨a, ha, h1⟩ := Option.bind_eq_some_iff.1 h
  clear h
  obtain ⟨rfl, rfl⟩ := cmp_isNaN_D_ok ha
  obtain ⟨q, hq, h2⟩ := Option.bind_eq_some_iff.1 h1
  exact ⟨_, _, h2, (cmp_isNaN_nf a _ _).trans ((cmp_isNaN_bind a _).trans (by rw [hq]; rfl))⟩
/-! cmp.Less[int] -/
def cmp_Less_K (x0 : Int) (x1 : Int) {ρ : Type} (K : Bool → Option ρ) : Option ρ :=
  Option.bind (cmp_isNaN x0) fun r1 =>
  cond (r1 == true)
    (Option.bind (cmp_isNaN x1) fun r2 =>
    cond ((!r2) == false)
      (K (decide (x0 < x1)))
      (K true))
    (K (decide (x0 < x1)))
def cmp_Less (x0 : Int) (x1 : Int) : Option (Bool) := cmp_Less_K x0 x1 some
theorem cmp_Less_bind (x0 : Int) (x1 : Int) {ρ : Type} (K : Bool → Option ρ) : cmp_Less_K x0 x1 K = (cmp_Less x0 x1).bind K := by
  simp only [cmp_Less, cmp_Less_K, Option.bind_assoc, Option.bind_some, Option.bind_none, cond_bind, sumK_bind]
noncomputable def cmp_Less_E : Env Row := envN false 266 0 [(301, cmp_isNaN_C)] []
theorem cmp_Less_nf (x0 : Int) (x1 : Int) (ρ : Type) (K : V → Heap Row → Option ρ) : evBody rowU cmp_Less_E (bodyC 266) [.c (.int .i64 x0), .c (.int .i64 x1)] [] K = cmp_Less_K x0 x1 (fun r => K (.c (.bool r)) []) := by kernel_rfl
def cmp_Less_D : List V → Heap Row → Option (Int × Int)
  | [.c (.int .i64 v1), .c (.int .i64 v2)], [] => some (v1, v2)
  | _, _ => none
theorem cmp_Less_D_ok {vs : List V} {W : Heap Row} {a : Int × Int} (h : cmp_Less_D vs W = some a) : vs = [.c (.int .i64 (a.1)), .c (.int .i64 (a.2))] ∧ W = [] := by
  unfold cmp_Less_D at h
  split at h
  · simp at h; subst h; exact ⟨rfl, rfl⟩
  · simp at h
def cmp_Less_C : Callee Row := ⟨[], fun _ vs W K => (cmp_Less_D vs W).bind fun a => (cmp_Less a.1 a.2).bind fun r => K (.c (.bool r)) []⟩
theorem cmp_Less_ok : CalleeOk Try.prog rowU 266 cmp_Less_C := by
  refine calleeP (nl := false) (m0 := 0) (T := [(301, cmp_isNaN_C)]) (H := []) (TabOk.cons cmp_isNaN_ok TabOk.nil) (by kernel_rfl) (by kernel_rfl) (fun p hp => nomatch hp) fun ρ vs W K r h => ?_
  obtain ⟨a, ha, h1⟩ := Option.bind_eq_some_iff.1 h
  clear h
  obtain ⟨rfl, rfl⟩ := cmp_Less_D_ok ha
  obtain ⟨q, hq, h2⟩ := Option.bind_eq_some_iff.1 h1
  exact ⟨_, _, h2, (cmp_Less_nf (a.1) (a.2) _ _).trans ((cmp_Less_bind (a.1) (a.2) _).trans (by rw [hq]; rfl))⟩
/-! slices.insertionSortOrdered[int] -/
noncomputable def slices_insertionSortOrdered_L2_K (n1 : Int) (n2 : Int) (n3 : Int) (l0 : List Int) (n4 : Int) {ρ : Type} (A : List Int × Int → Option ρ) (X : List Int → Option ρ) (R : Unit → Option ρ) : Option ρ :=
  cond ((decide (n4 > n1)) == true)
    (cond (decide (0 ≤ n4)) (cond (decide (n4 < (((l0.length : Nat) : Int)))) (cond (decide (0 ≤ (w64 (n4 - 1)))) (cond (decide ((w64 (n4 - 1)) < (((l0.length : Nat) : Int)))) (Option.bind (cmp_Less (List.getD l0 (n4.toNat) 0) (List.getD l0 ((w64 (n4 - 1)).toNat) 0)) fun r1 =>
    cond r1
      (cond (decide (0 ≤ (w64 (n4 - 1)))) (cond (decide ((w64 (n4 - 1)) < (((l0.length : Nat) : Int)))) (cond (decide (0 ≤ n4)) (cond (decide (n4 < (((l0.length : Nat) : Int)))) (cond (decide (0 ≤ n4)) (cond (decide (n4 < (((l0.length : Nat) : Int)))) (cond (decide (0 ≤ (w64 (n4 - 1)))) (cond (decide ((w64 (n4 - 1)) < ((((List.set l0 (n4.toNat) (List.getD l0 ((w64 (n4 - 1)).toNat) 0)).length : Nat) : Int)))) (A (List.set (List.set l0 (n4.toNat) (List.getD l0 ((w64 (n4 - 1)).toNat) 0)) ((w64 (n4 - 1)).toNat) (List.getD l0 (n4.toNat) 0), w64 (n4 - 1))) none) none) none) none) none) none) none) none)
      (X l0)) none) none) none) none)
    (X l0)
noncomputable def slices_insertionSortOrdered_L2_step (n1 : Int) (n2 : Int) (n3 : Int) (s : List Int × Int) : Option (Rnd (List Int × Int) (List Int) (Unit)) := slices_insertionSortOrdered_L2_K n1 n2 n3 (s.1) (s.2) (fun s => some (.again s)) (fun t => some (.exit t)) (fun k => some (.ret k))
theorem slices_insertionSortOrdered_L2_bind (n1 : Int) (n2 : Int) (n3 : Int) (s : List Int × Int) {ρ : Type} (A : List Int × Int → Option ρ) (X : List Int → Option ρ) (R : Unit → Option ρ) : slices_insertionSortOrdered_L2_K n1 n2 n3 (s.1) (s.2) A X R = (slices_insertionSortOrdered_L2_step n1 n2 n3 s).bind (rndE A X R) := by
  simp only [slices_insertionSortOrdered_L2_step, slices_insertionSortOrdered_L2_K, Option.bind_assoc, Option.bind_some, Option.bind_none, cond_bind, sumK_bind, rndE_again, rndE_exit, rndE_ret]
def slices_insertionSortOrdered_L2_st (p : Int × Int × Int) (s : List Int × Int) : List V × Heap Row := ([.c (.sl 0 0), .c (.int .i64 (p.1)), .c (.int .i64 (p.2.1)), .c (.int .i64 (p.2.2)), .c (.int .i64 (s.2))], [⟨.row ⟨.int, s.1⟩, 0, 2⟩])
def slices_insertionSortOrdered_L2_so (p : Int × Int × Int) (t : List Int) : List V × Heap Row := ([.c (.sl 0 0), .c (.int .i64 (p.1)), .c (.int .i64 (p.2.1)), .c (.int .i64 (p.2.2))], [⟨.row ⟨.int, t⟩, 0, 2⟩])
def slices_insertionSortOrdered_L2_D : List V → Heap Row → Option ((Int × Int × Int) × (List Int × Int))
  | [.c (.sl 0 0), .c (.int .i64 v1), .c (.int .i64 v2), .c (.int .i64 v3), .c (.int .i64 v4)], [⟨.row ⟨.int, v5⟩, 0, 2⟩] => some ((v1, v2, v3), (v5, v4))
  | _, _ => none
theorem slices_insertionSortOrdered_L2_D_ok (vs : List V) (L : Heap Row) (p : Int × Int × Int) (s : List Int × Int) (h : slices_insertionSortOrdered_L2_D vs L = some (p, s)) : slices_insertionSortOrdered_L2_st p s = (vs, L) := by
  unfold slices_insertionSortOrdered_L2_D at h
  split at h
  · simp at h; obtain ⟨rfl, rfl⟩ := h; rfl
  · simp at h
noncomputable def slices_insertionSortOrdered_L2_H : LoopH Row := loopX [0, 1, 2, 6, 7] [0, 1, 2, 6] slices_insertionSortOrdered_L2_D (fun p => slices_insertionSortOrdered_L2_step (p.1) (p.2.1) (p.2.2)) slices_insertionSortOrdered_L2_so
noncomputable def slices_insertionSortOrdered_L0_K (n1 : Int) (n2 : Int) (l0 : List Int) (n3 : Int) {ρ : Type} (A : List Int × Int → Option ρ) (X : List Int → Option ρ) (R : Unit → Option ρ) : Option ρ :=
  cond (decide (n3 < n2))
    (Option.bind (runX (slices_insertionSortOrdered_L2_step n1 n2 n3) (l0, n3)) fun t2 =>
    A (t2, w64 (n3 + 1)))
    (X l0)
noncomputable def slices_insertionSortOrdered_L0_step (n1 : Int) (n2 : Int) (s : List Int × Int) : Option (Rnd (List Int × Int) (List Int) (Unit)) := slices_insertionSortOrdered_L0_K n1 n2 (s.1) (s.2) (fun s => some (.again s)) (fun t => some (.exit t)) (fun k => some (.ret k))
theorem slices_insertionSortOrdered_L0_bind (n1 : Int) (n2 : Int) (s : List Int × Int) {ρ : Type} (A : List Int × Int → Option ρ) (X : List Int → Option ρ) (R : Unit → Option ρ) : slices_insertionSortOrdered_L0_K n1 n2 (s.1) (s.2) A X R = (slices_insertionSortOrdered_L0_step n1 n2 s).bind (rndE A X R) := by
  simp only [slices_insertionSortOrdered_L0_step, slices_insertionSortOrdered_L0_K, Option.bind_assoc, Option.bind_some, Option.bind_none, cond_bind, sumK_bind, rndE_again, rndE_exit, rndE_ret]
def slices_insertionSortOrdered_L0_st (p : Int × Int) (s : List Int × Int) : List V × Heap Row := ([.c (.sl 0 0), .c (.int .i64 (p.1)), .c (.int .i64 (p.2)), .c (.int .i64 (s.2))], [⟨.row ⟨.int, s.1⟩, 0, 2⟩])
def slices_insertionSortOrdered_L0_so (p : Int × Int) (t : List Int) : List V × Heap Row := ([], [⟨.row ⟨.int, t⟩, 0, 2⟩])
def slices_insertionSortOrdered_L0_D : List V → Heap Row → Option ((Int × Int) × (List Int × Int))
  | [.c (.sl 0 0), .c (.int .i64 v1), .c (.int .i64 v2), .c (.int .i64 v3)], [⟨.row ⟨.int, v4⟩, 0, 2⟩] => some ((v1, v2), (v4, v3))
  | _, _ => none
theorem slices_insertionSortOrdered_L0_D_ok (vs : List V) (L : Heap Row) (p : Int × Int) (s : List Int × Int) (h : slices_insertionSortOrdered_L0_D vs L = some (p, s)) : slices_insertionSortOrdered_L0_st p s = (vs, L) := by
  unfold slices_insertionSortOrdered_L0_D at h
  split at h
  · simp at h; obtain ⟨rfl, rfl⟩ := h; rfl
  · simp at h
noncomputable def slices_insertionSortOrdered_L0_H : LoopH Row := loopX [0, 1, 2, 6] [] slices_insertionSortOrdered_L0_D (fun p => slices_insertionSortOrdered_L0_step (p.1) (p.2)) slices_insertionSortOrdered_L0_so
theorem slices_insertionSortOrdered_L2_nf (p : Int × Int × Int) (s : List Int × Int) (ρ : Type) (again Kx Kr : List V → Heap Row → Option ρ) : evRound rowU (envOf 260 1 [(266, cmp_Less_C)] [(2, slices_insertionSortOrdered_L2_H), (0, slices_insertionSortOrdered_L0_H)]) 2 slices_insertionSortOrdered_L2_H (loopC 260 2) again (slices_insertionSortOrdered_L2_st p s).1 (slices_insertionSortOrdered_L2_st p s).2 Kx Kr = slices_insertionSortOrdered_L2_K (p.1) (p.2.1) (p.2.2) (s.1) (s.2) (fun s => again (slices_insertionSortOrdered_L2_st p s).1 (slices_insertionSortOrdered_L2_st p s).2) (fun t => Kx (slices_insertionSortOrdered_L2_so p t).1 (slices_insertionSortOrdered_L2_so p t).2) (fun _ => none) := by kernel_rfl
theorem slices_insertionSortOrdered_L2_ok (hb : LoopsOk Try.prog rowU (envOf 260 1 [(266, cmp_Less_C)] [(2, slices_insertionSortOrdered_L2_H), (0, slices_insertionSortOrdered_L0_H)]) (loopAt (codeP 260) 2)) : LoopOk Try.prog rowU (envOf 260 1 [(266, cmp_Less_C)] [(2, slices_insertionSortOrdered_L2_H), (0, slices_insertionSortOrdered_L0_H)]) 2 (loopAt (codeP 260) 2) slices_insertionSortOrdered_L2_H :=
  loopX_ok tagOk mixed envNl (envT (TabOk.cons cmp_Less_ok TabOk.nil)) hb slices_insertionSortOrdered_L2_st slices_insertionSortOrdered_L2_D_ok fun p s ρ A Kx Kr => (slices_insertionSortOrdered_L2_nf p s ρ A Kx Kr).trans (slices_insertionSortOrdered_L2_bind (p.1) (p.2.1) (p.2.2) s _ _ _)
theorem slices_insertionSortOrdered_L0_nf (p : Int × Int) (s : List Int × Int) (ρ : Type) (again Kx Kr : List V → Heap Row → Option ρ) : evRound rowU (envOf 260 1 [(266, cmp_Less_C)] [(2, slices_insertionSortOrdered_L2_H), (0, slices_insertionSortOrdered_L0_H)]) 0 slices_insertionSortOrdered_L0_H (loopC 260 0) again (slices_insertionSortOrdered_L0_st p s).1 (slices_insertionSortOrdered_L0_st p s).2 Kx Kr = slices_insertionSortOrdered_L0_K (p.1) (p.2) (s.1) (s.2) (fun s => again (slices_insertionSortOrdered_L0_st p s).1 (slices_insertionSortOrdered_L0_st p s).2) (fun t => Kx (slices_insertionSortOrdered_L0_so p t).1 (slices_insertionSortOrdered_L0_so p t).2) (fun _ => none) := by kernel_rfl
theorem slices_insertionSortOrdered_L0_ok (hb : LoopsOk Try.prog rowU (envOf 260 1 [(266, cmp_Less_C)] [(2, slices_insertionSortOrdered_L2_H), (0, slices_insertionSortOrdered_L0_H)]) (loopAt (codeP 260) 0)) : LoopOk Try.prog rowU (envOf 260 1 [(266, cmp_Less_C)] [(2, slices_insertionSortOrdered_L2_H), (0, slices_insertionSortOrdered_L0_H)]) 0 (loopAt (codeP 260) 0) slices_insertionSortOrdered_L0_H :=
  loopX_ok tagOk mixed envNl (envT (TabOk.cons cmp_Less_ok TabOk.nil)) hb slices_insertionSortOrdered_L0_st slices_insertionSortOrdered_L0_D_ok fun p s ρ A Kx Kr => (slices_insertionSortOrdered_L0_nf p s ρ A Kx Kr).trans (slices_insertionSortOrdered_L0_bind (p.1) (p.2) s _ _ _)
noncomputable def slices_insertionSortOrdered_K (x0 : List Int) (x1 : Int) (x2 : Int) {ρ : Type} (K : List Int → Option ρ) : Option ρ :=
  Option.bind (runX (slices_insertionSortOrdered_L0_step x1 x2) (x0, w64 (x1 + 1))) fun t3 =>
  K t3
noncomputable def slices_insertionSortOrdered (x0 : List Int) (x1 : Int) (x2 : Int) : Option (List Int) := slices_insertionSortOrdered_K x0 x1 x2 some
theorem slices_insertionSortOrdered_bind (x0 : List Int) (x1 : Int) (x2 : Int) {ρ : Type} (K : List Int → Option ρ) : slices_insertionSortOrdered_K x0 x1 x2 K = (slices_insertionSortOrdered x0 x1 x2).bind K := by
  simp only [slices_insertionSortOrdered, slices_insertionSortOrdered_K, Option.bind_assoc, Option.bind_some, Option.bind_none, cond_bind, sumK_bind]
noncomputable def slices_insertionSortOrdered_E : Env Row := envN false 260 1 [(266, cmp_Less_C)] [(2, slices_insertionSortOrdered_L2_H), (0, slices_insertionSortOrdered_L0_H)]
theorem slices_insertionSortOrdered_nf (x0 : List Int) (x1 : Int) (x2 : Int) (ρ : Type) (K : V → Heap Row → Option ρ) : evBody rowU slices_insertionSortOrdered_E (bodyC 260) [.c (.sl 0 0), .c (.int .i64 x1), .c (.int .i64 x2)] [⟨.row ⟨.int, x0⟩, 0, 2⟩] K = slices_insertionSortOrdered_K x0 x1 x2 (fun r => K (.t []) [⟨.row ⟨.int, r⟩, 0, 2⟩]) := by kernel_rfl
def slices_insertionSortOrdered_D : List V → Heap Row → Option (List Int × Int × Int)
  | [.c (.sl 0 0), .c (.int .i64 v1), .c (.int .i64 v2)], [⟨.row ⟨.int, v3⟩, 0, 2⟩] => some (v3, v1, v2)
  | _, _ => none
theorem slices_insertionSortOrdered_D_ok {vs : List V} {W : Heap Row} {a : List Int × Int × Int} (h : slices_insertionSortOrdered_D vs W = some a) : vs = [.c (.sl 0 0), .c (.int .i64 (a.2.1)), .c (.int .i64 (a.2.2))] ∧ W = [⟨.row ⟨.int, a.1⟩, 0, 2⟩] := by
  unfold slices_insertionSortOrdered_D at h
  split at h
  · simp at h; subst h; exact ⟨rfl, rfl⟩
  · simp at h
noncomputable def slices_insertionSortOrdered_C : Callee Row := ⟨[(true, 0)], fun _ vs W K => (slices_insertionSortOrdered_D vs W).bind fun a => (slices_insertionSortOrdered a.1 a.2.1 a.2.2).bind fun r => K (.t []) [⟨.row ⟨.int, r⟩, 0, 2⟩]⟩
theorem slices_insertionSortOrdered_ok : CalleeOk Try.prog rowU 260 slices_insertionSortOrdered_C := by
  refine calleeP (nl := false) (m0 := 1) (T := [(266, cmp_Less_C)]) (H := [(2, slices_insertionSortOrdered_L2_H), (0, slices_insertionSortOrdered_L0_H)]) (TabOk.cons cmp_Less_ok TabOk.nil) (by kernel_rfl) (by kernel_rfl) (fun p hp hb => by
    simp only [List.mem_cons, List.not_mem_nil, or_false] at hp
    rcases hp with rfl | rfl
    · exact slices_insertionSortOrdered_L2_ok hb
    · exact slices_insertionSortOrdered_L0_ok hb) fun ρ vs W K r h => ?_
  obtain ⟨a, ha, h1⟩ := Option.bind_eq_some_iff.1 h
  clear h
  obtain ⟨rfl, rfl⟩ := slices_insertionSortOrdered_D_ok ha
  obtain ⟨q, hq, h2⟩ := Option.bind_eq_some_iff.1 h1
  exact ⟨_, _, h2, (slices_insertionSortOrdered_nf (a.1) (a.2.1) (a.2.2) _ _).trans ((slices_insertionSortOrdered_bind (a.1) (a.2.1) (a.2.2) _).trans (by rw [hq]; rfl))⟩
end Go.Eng
