/- FnExactFreeCells returns true for every heap that comes in, and the heap reads afterwards as it read before. Conditions: none. -/
import Derived.Test.YtkgeojjgcffebaaExactFreeCellsPlain
import Derived.Test.YtkgeojjgcffebaaRows
namespace Go.Eng
open Go.Proofs
theorem laws_FnExactFreeCells_calls : CallsOk Try.prog 4 laws_FnExactFreeCells_C := by
  refine callsP (nl := false) (m0 := 4) (T := [(34, laws_szHeap_C), (36, laws_toHeap_C), (35, spec_FreeCells_C), (37, impl_FreeCells_C), (38, laws_eqHeap_C)]) (H := []) (TabOk.cons laws_szHeap_ok (TabOk.cons laws_toHeap_ok (TabOk.cons spec_FreeCells_ok (TabOk.cons impl_FreeCells_ok (TabOk.cons laws_eqHeap_ok TabOk.nil))))) (by kernel_rfl) (by kernel_rfl) (fun p hp => nomatch hp) fun ρ vs W K r h => ?_
  obtain ⟨a, ha, h1⟩ := Option.bind_eq_some_iff.1 h
  clear h
  obtain ⟨rfl, rfl⟩ := laws_FnExactFreeCells_D_ok ha
  obtain ⟨q, hq, h2⟩ := Option.bind_eq_some_iff.1 h1
  exact ⟨_, _, h2, (laws_FnExactFreeCells_nf a _ _).trans ((laws_FnExactFreeCells_bind a _).trans (by rw [hq]; rfl))⟩
end Go.Eng
namespace Go.Proofs.Ytkgeojjgcffebaa.fnExactFreeCells
open Go.ChangeShapes Go.WideShapes Go.ChangeAt Go.RowKit Go.Eng Go.Proofs
theorem own : ownKnob Try.prog.godebug = none := by kernel_rfl
theorem laidOut : laidOutB Try.prog = true := by kernel_rfl
set_option maxRecDepth 100000 in
/-- What the call answers, whatever comes in. -/
theorem walk {H : Type} {enc : TypeId × Value → H} {W : World} {base : Nat} {v0 : Value} {d0 : DataW H} {p0 : List MemPlace} {f0 : Nat} (g0 : Value.okWide Try.prog W .any base 48 v0) (h0 : DataW.trod enc Try.prog W 0 (fun _ => true) true f0 48 v0.cells.toList = some (d0, p0)) (z0 : ∀ m ∈ d0.weights Try.prog 48, m ≤ reachBytes) :
    Calls Try.prog 4 #[v0] W fun e W' => e = .returned (.bool true) ∧ Below W.heap.size W W' := by
  obtain ⟨u0, rfl, _⟩ := okWide_struct Try.underlying48 g0
  have l0 := trod_leaves (tagT := tagP) 8 (ls := [.row 3 (psOf .word), .row 1 (psOf .bool), .row 4 (psOf .span), .row 4 (psOf .span)]) (by kernel_rfl) h0 z0
  obtain ⟨c0_0, t0_0, e0_0, q0_0, l0_0⟩ := l0.inv_cons
  obtain ⟨r0, a0, s0, b0, w0⟩ := row_in .word (by decide) (by decide) q0_0
  obtain ⟨c0_1, t0_1, e0_1, q0_1, l0_1⟩ := l0_0.inv_cons
  obtain ⟨r1, a1, s1, b1, w1⟩ := row_in .bool (by decide) (by decide) q0_1
  obtain ⟨c0_2, t0_2, e0_2, q0_2, l0_2⟩ := l0_1.inv_cons
  obtain ⟨r2, a2, s2, b2, w2⟩ := row_in .span (by decide) (by decide) q0_2
  obtain ⟨c0_3, t0_3, e0_3, q0_3, l0_3⟩ := l0_2.inv_cons
  obtain ⟨r3, a3, s3, b3, w3⟩ := row_in .span (by decide) (by decide) q0_3
  have y0 := l0_3.inv_nil
  have x0 : u0.toList = [c0_0, c0_1, c0_2, c0_3] := by rw [show u0.toList = _ from e0_0, e0_1, e0_2, e0_3, y0]
  have sim := sim_ro (w := W) (l := [(⟨.word, r0⟩, a0), (⟨.bool, r1⟩, a1), (⟨.span, r2⟩, a2), (⟨.span, r3⟩, a3)]) (by
    intro x hx; simp only [List.mem_cons, List.not_mem_nil, or_false] at hx; rcases hx with rfl | rfl | rfl | rfl
    · exact ⟨_, s0⟩
    · exact ⟨_, s1⟩
    · exact ⟨_, s2⟩
    · exact ⟨_, s3⟩)
  refine (laws_FnExactFreeCells_calls [.a [.sl 0 0, .sl 1 0, .sl 2 0, .sl 3 0]] (roW [(⟨.word, r0⟩, a0), (⟨.bool, r1⟩, a1), (⟨.span, r2⟩, a2), (⟨.span, r3⟩, a3)]) (.c (.bool true), roW [(⟨.word, r0⟩, a0), (⟨.bool, r1⟩, a1), (⟨.span, r2⟩, a2), (⟨.span, r3⟩, a3)]) ?_ _ W _ sim ?_).mono fun e W' ⟨v', he, hl⟩ => ?_
  · simp only [laws_FnExactFreeCells_C]
    rw [show laws_FnExactFreeCells_D [.a [.sl 0 0, .sl 1 0, .sl 2 0, .sl 3 0]] (roW [(⟨.word, r0⟩, a0), (⟨.bool, r1⟩, a1), (⟨.span, r2⟩, a2), (⟨.span, r3⟩, a3)]) = some ⟨⟨r0, r1⟩, r2, r3⟩ from rfl, Option.bind_some]
    rw [laws_FnExactFreeCells_true ⟨⟨r0, r1⟩, r2, r3⟩ b0 b1 b2 b3]; rfl
  · exact (All2.nil).cons ⟨u0.toList, by simp, by rw [x0]; exact ((((All2.nil).cons (rel_ro (k := 3) rfl s3)).cons (rel_ro (k := 2) rfl s2)).cons (rel_ro (k := 1) rfl s1)).cons (rel_ro (k := 0) rfl s0)⟩
  · refine ⟨?_, below_of roW_ro hl⟩
    obtain ⟨φ', Wc, hv, _⟩ := hl
    rw [he]; exact congrArg _ hv
set_option maxRecDepth 100000 in
theorem lifted (os : Os) (started : os.Started) (H : Type) (enc : TypeId × Value → H) :
    ReturnsInHanded {} Try.checked os 4 .any (Rows.fnExactFreeCellsSpec.pre6 enc Try.prog Try.f4 Rows.fnExactFreeCellsRow.domain false) (Rows.fnExactFreeCellsSpec.post enc Try.prog Try.f4 false true false false) := by
  refine returnsInHanded_of_change_sized (C := Try.checked) own started (by kernel_rfl) Try.func4
    (ChangeSpec.witness6 (enc := enc) (C := Try.checked) false ⟨#[], #[.agg #[.slice none 0 0, .slice none 0 0, .slice none 0 0, .slice none 0 0]], []⟩ 8 (by kernel_rfl) (by kernel_rfl) (by kernel_rfl) (by kernel_rfl)) ?_
  intro W base args ds gs before hval0 hW hcnd hsz0 _
  have hsz : (DataW.weightsEach Try.prog (Try.f4.params.toList ++ Rows.fnExactFreeCellsSpec.plain.varTypes Try.prog) (ds ++ gs)).all (· ≤ reachBytes) = true := hsz0
  have hval : ∀ (j : Nat) t v, Try.f4.params[j]? = some t → args[j]? = some v → Value.okWide Try.prog W .any base t v := hval0
  have hW' := hW
  obtain ⟨p, q, hA0, hV, rfl, hfz, hnd⟩ := hW
  have hA : DataW.TrodAll enc Try.prog W 0 (fun _ => true) true Try.f4.params.toList args.toList ds p := hA0
  rw [Try.params4] at hA hval hsz
  obtain ⟨v0, vs0, d0, ds0, p0, q0, hargs, rfl, rfl, h0, r0⟩ := trodAll_cons hA
  obtain ⟨rfl, rfl, rfl⟩ := trodAll_nil r0
  obtain rfl : args = #[v0] := by cases args; simp_all
  obtain ⟨rfl, rfl⟩ := trodVars_none hV
  have k0 := h0
  have lt0 : ∀ x ∈ p0, x.block < W.heap.size := by obtain ⟨m, hm⟩ := k0; exact DataW.trod_lt m _ _ _ hm
  obtain ⟨f0, hf0⟩ := h0
  have z0 : ∀ m ∈ d0.weights Try.prog 48, m ≤ reachBytes := fun m hm => of_decide_eq_true (List.all_eq_true.1 hsz m (DataW.weights_mem_each (j := 0) (t := 48) (d := d0) rfl rfl m hm))
  clear hA0 hval0 hsz0 hsz
  refine (walk (hval 0 48 v0 rfl rfl) hf0 z0).mono fun e W' ⟨he, bel⟩ => ?_
  subst he
  exact ⟨_, rfl, _, _, _, [], _, [], hW', trodAll_mk1 (shut_bool Try.underlying4 _), (trodAll_cons_mk (Below.trod laidOut (by kernel_rfl) (of_decide_eq_true (by kernel_rfl)) k0 bel lt0) trodAll_mk0), rfl, bel.frame _, fun h => by cases h⟩
theorem band {a b : Bool} (h : a = true) (h' : b = true) : (a && b) = true := by subst h h'; rfl
theorem inPlace_ : Try.prog.inPlace 4 = [] := by kernel_rfl
theorem unfollowed_ : Try.prog.unfollowed 4 = true := by kernel_rfl
theorem recurses_ : Try.prog.recurses 4 = true := by kernel_rfl
theorem named_ : Try.prog.varsNamed 4 = [] := by kernel_rfl
set_option maxHeartbeats 40000000 in
theorem closed : joinedFacts Try.prog 4 Try.f4 Rows.fnExactFreeCellsSpec Rows.fnExactFreeCellsRow = true := by
  unfold joinedFacts
  rw [inPlace_, unfollowed_, recurses_, named_]
  repeat' (with_reducible refine band ?_ ?_)
  all_goals (as_aux_lemma => kernel_rfl)
theorem holds : Rows.FnExactFreeCellsSaid :=
  OpenClaim.holds_of_wide 4 Try.f4 rfl rfl rfl rfl rfl rfl rfl ⟨rfl, rfl, rfl, rfl, rfl⟩ rfl rfl rfl rfl rfl (by kernel_rfl) Try.func4 closed
    (of_decide_eq_true (by kernel_rfl)) (by unfold Func.isWrapper; first | (rw [if_pos (by decide +kernel)]; kernel_rfl) | (rw [if_neg (by decide +kernel)]; exact ⟨rfl, rfl⟩))
    (fun os started H enc _ => lifted os started H enc)
end Go.Proofs.Ytkgeojjgcffebaa.fnExactFreeCells
namespace Go.Proofs.Ytkgeojjgcffebaa
theorem fnExactFreeCells_holds : Rows.FnExactFreeCellsSaid := fnExactFreeCells.holds
end Go.Proofs.Ytkgeojjgcffebaa
