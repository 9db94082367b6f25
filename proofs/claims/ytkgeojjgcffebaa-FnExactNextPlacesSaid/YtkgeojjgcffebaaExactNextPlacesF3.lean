/- Functions of the program, as the evaluator tells them: printed by a program of ours. -/
import Derived.Test.YtkgeojjgcffebaaExactNextPlacesFS
import Derived.Test.YtkgeojjgcffebaaExactNextPlacesF0
import Derived.Test.YtkgeojjgcffebaaExactNextPlacesF2
set_option linter.unusedVariables false
set_option linter.unusedSimpArgs false
set_option maxRecDepth 20000
namespace Go.Eng
open Go.Proofs
/-! loop.example/g00249/laws.markIntS -/
noncomputable def laws_markIntS_L0_K  (l0 : List Int) (n1 : Int) (n2 : Int) {ρ : Type} (A : List Int × Int × Int → Option ρ) (X : List Int × Int → Option ρ) (R : Unit → Option ρ) : Option ρ :=
  cond (decide (n2 < (((l0.length : Nat) : Int))))
    (cond (decide (0 ≤ n2)) (cond (decide (n2 < (((l0.length : Nat) : Int)))) (A (List.set l0 (n2.toNat) n1, w64 (n1 + 1), w64 (n2 + 1))) none) none)
    (X (l0, n1))
noncomputable def laws_markIntS_L0_step  (s : List Int × Int × Int) : Option (Rnd (List Int × Int × Int) (List Int × Int) (Unit)) := laws_markIntS_L0_K  (s.1) (s.2.1) (s.2.2) (fun s => some (.again s)) (fun t => some (.exit t)) (fun k => some (.ret k))
theorem laws_markIntS_L0_bind  (s : List Int × Int × Int) {ρ : Type} (A : List Int × Int × Int → Option ρ) (X : List Int × Int → Option ρ) (R : Unit → Option ρ) : laws_markIntS_L0_K  (s.1) (s.2.1) (s.2.2) A X R = (laws_markIntS_L0_step  s).bind (rndE A X R) := by
  simp only [laws_markIntS_L0_step, laws_markIntS_L0_K, Option.bind_assoc, Option.bind_some, Option.bind_none, cond_bind, sumK_bind, rndE_again, rndE_exit, rndE_ret]
def laws_markIntS_L0_st (p : Unit) (s : List Int × Int × Int) : List V × Heap Row := ([.c (.sl 0 0), .c (.int .i64 (s.2.1)), .c (.int .i64 (s.2.2))], [⟨.row ⟨.int, s.1⟩, 0, 2⟩])
def laws_markIntS_L0_so (p : Unit) (t : List Int × Int) : List V × Heap Row := ([.c (.int .i64 (t).2)], [⟨.row ⟨.int, (t).1⟩, 0, 2⟩])
def laws_markIntS_L0_D : List V → Heap Row → Option ((Unit) × (List Int × Int × Int))
  | [.c (.sl 0 0), .c (.int .i64 v1), .c (.int .i64 v2)], [⟨.row ⟨.int, v3⟩, 0, 2⟩] => some ((), (v3, v1, v2))
  | _, _ => none
theorem laws_markIntS_L0_D_ok (vs : List V) (L : Heap Row) (p : Unit) (s : List Int × Int × Int) (h : laws_markIntS_L0_D vs L = some (p, s)) : laws_markIntS_L0_st p s = (vs, L) := by
  unfold laws_markIntS_L0_D at h
  split at h
  · simp at h; obtain ⟨rfl, rfl⟩ := h; rfl
  · simp at h
noncomputable def laws_markIntS_L0_H : LoopH Row := loopX [0, 1, 5] [1] laws_markIntS_L0_D (fun p => laws_markIntS_L0_step ) laws_markIntS_L0_so
theorem laws_markIntS_L0_nf (p : Unit) (s : List Int × Int × Int) (ρ : Type) (again Kx Kr : List V → Heap Row → Option ρ) : evRound rowU (envOf 50 1 [] [(0, laws_markIntS_L0_H)]) 0 laws_markIntS_L0_H (loopC 50 0) again (laws_markIntS_L0_st p s).1 (laws_markIntS_L0_st p s).2 Kx Kr = laws_markIntS_L0_K  (s.1) (s.2.1) (s.2.2) (fun s => again (laws_markIntS_L0_st p s).1 (laws_markIntS_L0_st p s).2) (fun t => Kx (laws_markIntS_L0_so p t).1 (laws_markIntS_L0_so p t).2) (fun _ => none) := by kernel_rfl
theorem laws_markIntS_L0_ok (hb : LoopsOk Try.prog rowU (envOf 50 1 [] [(0, laws_markIntS_L0_H)]) (loopAt (codeP 50) 0)) : LoopOk Try.prog rowU (envOf 50 1 [] [(0, laws_markIntS_L0_H)]) 0 (loopAt (codeP 50) 0) laws_markIntS_L0_H :=
  loopX_ok tagOk mixed envNl (envT TabOk.nil) hb laws_markIntS_L0_st laws_markIntS_L0_D_ok fun p s ρ A Kx Kr => (laws_markIntS_L0_nf p s ρ A Kx Kr).trans (laws_markIntS_L0_bind  s _ _ _)
noncomputable def laws_markIntS_K (x0 : List Int) (x1 : Int) {ρ : Type} (K : Int × List Int → Option ρ) : Option ρ :=
  Option.bind (runX (laws_markIntS_L0_step) (x0, x1, 0)) fun t1 =>
  K (t1.2, t1.1)
noncomputable def laws_markIntS (x0 : List Int) (x1 : Int) : Option (Int × List Int) := laws_markIntS_K x0 x1 some
theorem laws_markIntS_bind (x0 : List Int) (x1 : Int) {ρ : Type} (K : Int × List Int → Option ρ) : laws_markIntS_K x0 x1 K = (laws_markIntS x0 x1).bind K := by
  simp only [laws_markIntS, laws_markIntS_K, Option.bind_assoc, Option.bind_some, Option.bind_none, cond_bind, sumK_bind]
noncomputable def laws_markIntS_E : Env Row := envN false 50 1 [] [(0, laws_markIntS_L0_H)]
theorem laws_markIntS_nf (x0 : List Int) (x1 : Int) (ρ : Type) (K : V → Heap Row → Option ρ) : evBody rowU laws_markIntS_E (bodyC 50) [.c (.sl 0 0), .c (.int .i64 x1)] [⟨.row ⟨.int, x0⟩, 0, 2⟩] K = laws_markIntS_K x0 x1 (fun r => K (.c (.int .i64 r.1)) [⟨.row ⟨.int, r.2⟩, 0, 2⟩]) := by kernel_rfl
def laws_markIntS_D : List V → Heap Row → Option (List Int × Int)
  | [.c (.sl 0 0), .c (.int .i64 v1)], [⟨.row ⟨.int, v2⟩, 0, 2⟩] => some (v2, v1)
  | _, _ => none
theorem laws_markIntS_D_ok {vs : List V} {W : Heap Row} {a : List Int × Int} (h : laws_markIntS_D vs W = some a) : vs = [.c (.sl 0 0), .c (.int .i64 (a.2))] ∧ W = [⟨.row ⟨.int, a.1⟩, 0, 2⟩] := by
  unfold laws_markIntS_D at h
  split at h
  · simp at h; subst h; exact ⟨rfl, rfl⟩
  · simp at h
noncomputable def laws_markIntS_C : Callee Row := ⟨[(true, 0)], fun _ vs W K => (laws_markIntS_D vs W).bind fun a => (laws_markIntS a.1 a.2).bind fun r => K (.c (.int .i64 r.1)) [⟨.row ⟨.int, r.2⟩, 0, 2⟩]⟩
theorem laws_markIntS_ok : CalleeOk Try.prog rowU 50 laws_markIntS_C := by
  refine calleeP (nl := false) (m0 := 1) (T := []) (H := [(0, laws_markIntS_L0_H)]) TabOk.nil (by kernel_rfl) (by kernel_rfl) (fun p hp hb => by
    simp only [List.mem_cons, List.not_mem_nil, or_false] at hp
    subst hp
    exact laws_markIntS_L0_ok hb) fun ρ vs W K r h => ?_
  obtain ⟨a, ha, h1⟩ := Option.bind_eq_some_iff.1 h
  clear h
  obtain ⟨rfl, rfl⟩ := laws_markIntS_D_ok ha
  obtain ⟨q, hq, h2⟩ := Option.bind_eq_some_iff.1 h1
  exact ⟨_, _, h2, (laws_markIntS_nf (a.1) (a.2) _ _).trans ((laws_markIntS_bind (a.1) (a.2) _).trans (by rw [hq]; rfl))⟩
/-! loop.example/g00249/laws.heldIntS -/
noncomputable def laws_heldIntS_L0_K (l0 : List Int) (n1 : Int) (n2 : Int) {ρ : Type} (A : Int × Int → Option ρ) (X : Int → Option ρ) (R : Unit → Option ρ) : Option ρ :=
  cond (decide (n2 < (((l0.length : Nat) : Int))))
    (cond (decide (0 ≤ n2)) (cond (decide (n2 < (((l0.length : Nat) : Int)))) (cond ((List.getD l0 (n2.toNat) 0) != n1)
      (R ())
      (A (w64 (n1 + 1), w64 (n2 + 1)))) none) none)
    (X n1)
noncomputable def laws_heldIntS_L0_step (l0 : List Int) (s : Int × Int) : Option (Rnd (Int × Int) (Int) (Unit)) := laws_heldIntS_L0_K l0 (s.1) (s.2) (fun s => some (.again s)) (fun t => some (.exit t)) (fun k => some (.ret k))
theorem laws_heldIntS_L0_bind (l0 : List Int) (s : Int × Int) {ρ : Type} (A : Int × Int → Option ρ) (X : Int → Option ρ) (R : Unit → Option ρ) : laws_heldIntS_L0_K l0 (s.1) (s.2) A X R = (laws_heldIntS_L0_step l0 s).bind (rndE A X R) := by
  simp only [laws_heldIntS_L0_step, laws_heldIntS_L0_K, Option.bind_assoc, Option.bind_some, Option.bind_none, cond_bind, sumK_bind, rndE_again, rndE_exit, rndE_ret]
def laws_heldIntS_L0_st (p : List Int) (s : Int × Int) : List V × Heap Row := ([.c (.sl 0 0), .c (.int .i64 (s.1)), .c (.int .i64 (s.2))], [⟨.row ⟨.int, p⟩, 0, 1⟩])
def laws_heldIntS_L0_so (p : List Int) (t : Int) : List V × Heap Row := ([.c (.int .i64 (t))], [⟨.row ⟨.int, p⟩, 0, 1⟩])
def laws_heldIntS_L0_sr (p : List Int) (k : Unit) : List V × Heap Row := ([.c (.int .i64 (-1))], [⟨.row ⟨.int, p⟩, 0, 1⟩])
def laws_heldIntS_L0_D : List V → Heap Row → Option ((List Int) × (Int × Int))
  | [.c (.sl 0 0), .c (.int .i64 v1), .c (.int .i64 v2)], [⟨.row ⟨.int, v3⟩, 0, 1⟩] => some ((v3), (v1, v2))
  | _, _ => none
theorem laws_heldIntS_L0_D_ok (vs : List V) (L : Heap Row) (p : List Int) (s : Int × Int) (h : laws_heldIntS_L0_D vs L = some (p, s)) : laws_heldIntS_L0_st p s = (vs, L) := by
  unfold laws_heldIntS_L0_D at h
  split at h
  · simp at h; obtain ⟨rfl, rfl⟩ := h; rfl
  · simp at h
noncomputable def laws_heldIntS_L0_H : LoopH Row := loopR [0, 1, 5] [1] laws_heldIntS_L0_D (fun p => laws_heldIntS_L0_step p) laws_heldIntS_L0_so laws_heldIntS_L0_sr
theorem laws_heldIntS_L0_nf (p : List Int) (s : Int × Int) (ρ : Type) (again Kx Kr : List V → Heap Row → Option ρ) : evRound rowU (envOf 51 1 [] [(0, laws_heldIntS_L0_H)]) 0 laws_heldIntS_L0_H (loopC 51 0) again (laws_heldIntS_L0_st p s).1 (laws_heldIntS_L0_st p s).2 Kx Kr = laws_heldIntS_L0_K p (s.1) (s.2) (fun s => again (laws_heldIntS_L0_st p s).1 (laws_heldIntS_L0_st p s).2) (fun t => Kx (laws_heldIntS_L0_so p t).1 (laws_heldIntS_L0_so p t).2) (fun k => Kr (laws_heldIntS_L0_sr p k).1 (laws_heldIntS_L0_sr p k).2) := by kernel_rfl
theorem laws_heldIntS_L0_ok (hb : LoopsOk Try.prog rowU (envOf 51 1 [] [(0, laws_heldIntS_L0_H)]) (loopAt (codeP 51) 0)) : LoopOk Try.prog rowU (envOf 51 1 [] [(0, laws_heldIntS_L0_H)]) 0 (loopAt (codeP 51) 0) laws_heldIntS_L0_H :=
  loopR_ok tagOk mixed envNl (envT TabOk.nil) hb laws_heldIntS_L0_st laws_heldIntS_L0_D_ok fun p s ρ A Kx Kr => (laws_heldIntS_L0_nf p s ρ A Kx Kr).trans (laws_heldIntS_L0_bind p s _ _ _)
noncomputable def laws_heldIntS_K (x0 : List Int) (x1 : Int) {ρ : Type} (K : Int → Option ρ) : Option ρ :=
  Option.bind (runL (laws_heldIntS_L0_step x0) (x1, 0)) fun ot1 => sumK ot1
    (fun t1 => K t1)
    (fun k2 => K (-1))
noncomputable def laws_heldIntS (x0 : List Int) (x1 : Int) : Option (Int) := laws_heldIntS_K x0 x1 some
theorem laws_heldIntS_bind (x0 : List Int) (x1 : Int) {ρ : Type} (K : Int → Option ρ) : laws_heldIntS_K x0 x1 K = (laws_heldIntS x0 x1).bind K := by
  simp only [laws_heldIntS, laws_heldIntS_K, Option.bind_assoc, Option.bind_some, Option.bind_none, cond_bind, sumK_bind]
noncomputable def laws_heldIntS_E : Env Row := envN false 51 1 [] [(0, laws_heldIntS_L0_H)]
theorem laws_heldIntS_nf (x0 : List Int) (x1 : Int) (ρ : Type) (K : V → Heap Row → Option ρ) : evBody rowU laws_heldIntS_E (bodyC 51) [.c (.sl 0 0), .c (.int .i64 x1)] [⟨.row ⟨.int, x0⟩, 0, 1⟩] K = laws_heldIntS_K x0 x1 (fun r => K (.c (.int .i64 r)) [⟨.row ⟨.int, x0⟩, 0, 1⟩]) := by kernel_rfl
def laws_heldIntS_D : List V → Heap Row → Option (List Int × Int)
  | [.c (.sl 0 0), .c (.int .i64 v1)], [⟨.row ⟨.int, v2⟩, 0, 1⟩] => some (v2, v1)
  | _, _ => none
theorem laws_heldIntS_D_ok {vs : List V} {W : Heap Row} {a : List Int × Int} (h : laws_heldIntS_D vs W = some a) : vs = [.c (.sl 0 0), .c (.int .i64 (a.2))] ∧ W = [⟨.row ⟨.int, a.1⟩, 0, 1⟩] := by
  unfold laws_heldIntS_D at h
  split at h
  · simp at h; subst h; exact ⟨rfl, rfl⟩
  · simp at h
noncomputable def laws_heldIntS_C : Callee Row := ⟨[(false, 0)], fun _ vs W K => (laws_heldIntS_D vs W).bind fun a => (laws_heldIntS a.1 a.2).bind fun r => K (.c (.int .i64 r)) [⟨.row ⟨.int, a.1⟩, 0, 1⟩]⟩
theorem laws_heldIntS_ok : CalleeOk Try.prog rowU 51 laws_heldIntS_C := by
  refine calleeP (nl := false) (m0 := 1) (T := []) (H := [(0, laws_heldIntS_L0_H)]) TabOk.nil (by kernel_rfl) (by kernel_rfl) (fun p hp hb => by
    simp only [List.mem_cons, List.not_mem_nil, or_false] at hp
    subst hp
    exact laws_heldIntS_L0_ok hb) fun ρ vs W K r h => ?_
  obtain ⟨a, ha, h1⟩ := Option.bind_eq_some_iff.1 h
  clear h
  obtain ⟨rfl, rfl⟩ := laws_heldIntS_D_ok ha
  obtain ⟨q, hq, h2⟩ := Option.bind_eq_some_iff.1 h1
  exact ⟨_, _, h2, (laws_heldIntS_nf (a.1) (a.2) _ _).trans ((laws_heldIntS_bind (a.1) (a.2) _).trans (by rw [hq]; rfl))⟩
/-! loop.example/g00249/laws.FnExactNextPlaces -/
noncomputable def laws_FnExactNextPlaces_K (x0 : List GIns) (x1 : Int) {ρ : Type} (K : Bool → Option ρ) : Option ρ :=
  Option.bind (laws_szInsS x0 1048576) fun r1 =>
  cond (decide (r1 < 0))
    (K true)
    (Option.bind (laws_toInsS x0) fun r2 =>
    Option.bind (spec_NextPlaces r2 x1) fun r3 =>
    Option.bind (laws_toInsS x0) fun r4 =>
    Option.bind (impl_NextPlaces r4 x1) fun r5 =>
    Option.bind (laws_eqIntS r5 r3) fun r6 =>
    cond (!r6)
      (K false)
      (Option.bind (laws_toInsS x0) fun r7 =>
      Option.bind (laws_eqInsS r4 r7) fun r8 =>
      cond (!r8)
        (K false)
        (Option.bind (laws_markInsS r4 1) fun r9 =>
        cond ((decide (r9.1 < 0)) == false)
          (Option.bind (laws_eqIntS r5 r3) fun r10 =>
          cond (!r10)
            (K false)
            (Option.bind (laws_markIntS r5 1) fun r11 =>
            Option.bind (laws_heldIntS r11.2 1) fun r12 =>
            cond (decide (r12 < 0))
              (K false)
              (cond (r12 != r11.1)
                (K false)
                (Option.bind (laws_toInsS x0) fun r13 =>
                Option.bind (impl_NextPlaces r13 x1) fun r14 =>
                Option.bind (laws_eqIntS r14 r3) fun r15 =>
                cond (!r15)
                  (K false)
                  (Option.bind (laws_heldIntS r11.2 1) fun r16 =>
                  cond (decide (r16 < 0))
                    (K false)
                    (cond (r16 != r11.1)
                      (K false)
                      (K true)))))))
          (K false))))
noncomputable def laws_FnExactNextPlaces (x0 : List GIns) (x1 : Int) : Option (Bool) := laws_FnExactNextPlaces_K x0 x1 some
theorem laws_FnExactNextPlaces_bind (x0 : List GIns) (x1 : Int) {ρ : Type} (K : Bool → Option ρ) : laws_FnExactNextPlaces_K x0 x1 K = (laws_FnExactNextPlaces x0 x1).bind K := by
  simp only [laws_FnExactNextPlaces, laws_FnExactNextPlaces_K, Option.bind_assoc, Option.bind_some, Option.bind_none, cond_bind, sumK_bind]
noncomputable def laws_FnExactNextPlaces_E : Env Row := envN false 9 1 [(68, laws_szInsS_C), (70, laws_toInsS_C), (69, spec_NextPlaces_C), (71, impl_NextPlaces_C), (47, laws_eqIntS_C), (72, laws_eqInsS_C), (73, laws_markInsS_C), (50, laws_markIntS_C), (51, laws_heldIntS_C)] []
theorem laws_FnExactNextPlaces_nf (x0 : List GIns) (x1 : Int) (ρ : Type) (K : V → Heap Row → Option ρ) : evBody rowU laws_FnExactNextPlaces_E (bodyC 9) [.c (.sl 0 0), .c (.int .i64 x1)] [⟨.row ⟨.ins, x0⟩, 0, 1⟩] K = laws_FnExactNextPlaces_K x0 x1 (fun r => K (.c (.bool r)) [⟨.row ⟨.ins, x0⟩, 0, 1⟩]) := by kernel_rfl
def laws_FnExactNextPlaces_D : List V → Heap Row → Option (List GIns × Int)
  | [.c (.sl 0 0), .c (.int .i64 v1)], [⟨.row ⟨.ins, v2⟩, 0, 1⟩] => some (v2, v1)
  | _, _ => none
theorem laws_FnExactNextPlaces_D_ok {vs : List V} {W : Heap Row} {a : List GIns × Int} (h : laws_FnExactNextPlaces_D vs W = some a) : vs = [.c (.sl 0 0), .c (.int .i64 (a.2))] ∧ W = [⟨.row ⟨.ins, a.1⟩, 0, 1⟩] := by
  unfold laws_FnExactNextPlaces_D at h
  split at h
  · simp at h; subst h; exact ⟨rfl, rfl⟩
  · simp at h
noncomputable def laws_FnExactNextPlaces_C : Callee Row := ⟨[(false, 0)], fun _ vs W K => (laws_FnExactNextPlaces_D vs W).bind fun a => (laws_FnExactNextPlaces a.1 a.2).bind fun r => K (.c (.bool r)) [⟨.row ⟨.ins, a.1⟩, 0, 1⟩]⟩
theorem laws_FnExactNextPlaces_ok : CalleeOk Try.prog rowU 9 laws_FnExactNextPlaces_C := by
  refine calleeP (nl := false) (m0 := 1) (T := [(68, laws_szInsS_C), (70, laws_toInsS_C), (69, spec_NextPlaces_C), (71, impl_NextPlaces_C), (47, laws_eqIntS_C), (72, laws_eqInsS_C), (73, laws_markInsS_C), (50, laws_markIntS_C), (51, laws_heldIntS_C)]) (H := []) (TabOk.cons laws_szInsS_ok (TabOk.cons laws_toInsS_ok (TabOk.cons spec_NextPlaces_ok (TabOk.cons impl_NextPlaces_ok (TabOk.cons laws_eqIntS_ok (TabOk.cons laws_eqInsS_ok (TabOk.cons laws_markInsS_ok (TabOk.cons laws_markIntS_ok (TabOk.cons laws_heldIntS_ok TabOk.nil))))))))) (by kernel_rfl) (by kernel_rfl) (fun p hp => nomatch hp) fun ρ vs W K r h => ?_
  obtain ⟨a, ha, h1⟩ := Option.bind_eq_some_iff.1 h
  clear h
  obtain ⟨rfl, rfl⟩ := laws_FnExactNextPlaces_D_ok ha
  obtain ⟨q, hq, h2⟩ := Option.bind_eq_some_iff.1 h1
  exact ⟨_, _, h2, (laws_FnExactNextPlaces_nf (a.1) (a.2) _ _).trans ((laws_FnExactNextPlaces_bind (a.1) (a.2) _).trans (by rw [hq]; rfl))⟩
end Go.Eng
