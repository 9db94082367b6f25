/- An evaluator of the loaded program over an abstract heap, proved right: part 4. -/
import Derived.Test.YtkgeojjgcffebaaEng3
import Derived.Tactics
import Derived.Orders
import Derived.LoopN
set_option linter.unusedVariables false
set_option linter.unusedSimpArgs false
set_option linter.unusedSectionVars false
/- The engine, part 20: what comes back stands for the world. -/
namespace Go.Eng
section
variable {R : Type} {U : RowU R}
variable {φ φ' : Phi} {h : Hp R} {w w' : World} {ws : Wins R} {L H : Heap R} {Wc : List Nat}

theorem Came.kept_phi (C : Came U φ h w ws L H φ' w' Wc) {k : Nat} {x : Src × Blk R} (hk : ws[k]? = some x) (hm : x.2.m ≠ 2) : φ' k = adr U φ x := by
  rw [C.st.phi k fun hw => ?_]
  · simp [phW, hk]
  · rcases C.wr k hw with ⟨y, hy, hm'⟩ | hge
    · rw [hk] at hy; simp at hy; subst hy; exact hm hm'
    · rw [List.getElem?_eq_none hge] at hk; simp at hk
theorem Came.kOf_own (C : Came U φ h w ws L H φ' w' Wc) {k b : Nat} {x : Src × Blk R} (hk : ws[k]? = some x) (hm : x.2.m = 2) (hb : x.1.blk = some b) : kOf ws L H b = some k := by
  unfold kOf
  rw [if_pos (C.inL hk hb).1]
  cases hf : findW b 0 ws with
  | none => exact absurd hb (findW_none hf k x hk hm)
  | some k' =>
    obtain ⟨_, y, hy, hm', hb'⟩ := findW_some hf
    rw [Nat.sub_zero] at hy
    by_cases e : k' = k
    · rw [e]
    · exact absurd hb (lone_ne C.lone hy hk e hm' hb')
theorem Came.kOf_new (C : Came U φ h w ws L H φ' w' Wc) {k : Nat} (hk : ws.length ≤ k) (hl : k < H.length) : kOf ws L H (L.length + (k - ws.length)) = some k := by
  unfold kOf
  rw [if_neg (by omega), if_pos (by omega)]
  congr 1; omega
theorem Came.kOf_ro (C : Came U φ h w ws L H φ' w' Wc) {b : Nat} {blk : Blk R} (hb : h b = some blk) (hl : b < L.length) (hm : blk.m = 1) : kOf ws L H b = none := by
  cases hk : kOf ws L H b with
  | none => rfl
  | some k =>
    unfold kOf at hk
    rw [if_pos hl] at hk
    obtain ⟨_, x, hx, hm2, hxb⟩ := findW_some hk
    rw [Nat.sub_zero] at hx
    obtain ⟨_, b0, _, h1, _, h2⟩ := C.inL hx hxb
    rw [hb] at h1; simp at h1; subst h1
    have := h2 hm2
    omega
theorem roB_some {b : Nat} (hr : roB L b = true) : ∃ k g, L[b]? = some ⟨k, g, 1⟩ := by
  unfold roB at hr
  split at hr
  · rename_i k g hb; exact ⟨k, g, hb⟩
  · simp at hr

/-- A row of the callee in the caller's words. -/
theorem rowT_ok (C : Came U φ h w ws L H φ' w' Wc) {k g b G : Nat} {off : Option (Nat × Nat)} (hk : rowT ws L H k g = some (b, G, off)) : ∃ r m, H[k]? = some ⟨.row r, g, m⟩ ∧ m ≠ 0 ∧
    ((off = none ∧ hpB h ws L H b = some ⟨.row r, G, m⟩ ∧ phB φ φ' ws L H b = φ' k) ∨
     ∃ l0 n0 r0, off = some (l0, n0) ∧ r = U.cut r0 l0 n0 ∧ l0 + n0 ≤ U.len r0 ∧ m = 1 ∧ hpB h ws L H b = some ⟨.row r0, G, 1⟩ ∧ φ' k = (phB φ φ' ws L H b).map fun a => a.add (l0 * U.esz (U.tag r0))) := by
  unfold rowT at hk
  split at hk
  · rename_i hlive
    obtain ⟨r, m, hH, hm⟩ := liveG_some hlive
    have hkl := (List.getElem?_eq_some_iff.1 hH).1
    refine ⟨r, m, hH, hm, ?_⟩
    have hph : ∀ {b : Nat}, kOf ws L H b = some k → phB φ φ' ws L H b = φ' k := fun e => by simp [phB, e]
    split at hk
    · rename_i hnone
      simp at hk; obtain ⟨rfl, rfl, rfl⟩ := hk
      have hge : ws.length ≤ k := by
        rcases Nat.lt_or_ge k ws.length with hlt | hge
        · rw [List.getElem?_eq_getElem hlt] at hnone; simp at hnone
        · exact hge
      have hko := C.kOf_new hge hkl
      obtain ⟨blk, G, e1, e2, e3, e4, _⟩ := C.hit hko
      rw [hH] at e1; simp at e1; subst e1
      simp only at e2; subst e2
      refine .inl ⟨rfl, ?_, hph hko⟩
      rw [e3]
      rcases e4 with ⟨_, rfl, _⟩ | ⟨x, _, hx, _⟩
      · rfl
      · rw [hnone] at hx; simp at hx
    · rename_i s x hx
      have hsrc := C.win.src k _ hx
      split at hk
      · rename_i hm2
        split at hk
        · rename_i b' g0
          simp at hk; obtain ⟨rfl, rfl, rfl⟩ := hk
          have hko := C.kOf_own hx hm2 rfl
          obtain ⟨blk, G, e1, e2, e3, e4, _⟩ := C.hit hko
          rw [hH] at e1; simp at e1; subst e1
          simp only at e2; subst e2
          obtain ⟨_, _, r1, m1, hb1, _⟩ := hsrc
          refine .inl ⟨rfl, ?_, hph hko⟩
          rw [e3]
          rcases e4 with ⟨hn, _⟩ | ⟨y, b0, _, _, _, hb0, _, rfl⟩
          · rw [hb1] at hn; simp at hn
          · rw [hb1] at hb0; simp at hb0; subst hb0; rfl
        · rename_i tg
          simp only [Option.map_eq_some_iff] at hk
          obtain ⟨i, hi, hk⟩ := hk
          simp at hk; obtain ⟨rfl, rfl, rfl⟩ := hk
          obtain ⟨_, hi2⟩ := findN_some hi
          rw [Nat.sub_zero] at hi2
          have hko : kOf ws L H (L.length + (H.length - ws.length) + i) = some k := by
            unfold kOf
            rw [if_neg (by omega), if_neg (by omega), show L.length + (H.length - ws.length) + i - L.length - (H.length - ws.length) = i by omega]
            exact hi2
          obtain ⟨blk, G, e1, e2, e3, e4, _⟩ := C.hit hko
          rw [hH] at e1; simp at e1; subst e1
          simp only at e2; subst e2
          refine .inl ⟨rfl, ?_, hph hko⟩
          rw [e3]
          rcases e4 with ⟨_, rfl, _⟩ | ⟨y, _, hy, _, hyb, _⟩
          · rfl
          · rw [hx] at hy; simp at hy; subst hy; simp [Src.blk] at hyb
        · simp at hk
      · rename_i hm2
        have hkeep := C.keep k _ hx hm2
        rw [hH] at hkeep
        simp only [Option.some.injEq] at hkeep
        split at hk
        · rename_i b' g0
          split at hk
          · rename_i hro
            simp at hk; obtain ⟨rfl, rfl, rfl⟩ := hk
            obtain ⟨_, _, r1, m1, hb1, hm1, _, hk1⟩ := hsrc
            obtain ⟨_, _, hL⟩ := roB_some hro
            have hag := C.agr b' (touched_mem hx rfl)
            rw [hb1, hL] at hag
            simp at hag; obtain ⟨_, _, rfl⟩ := hag
            have hko := C.kOf_ro hb1 (List.getElem?_eq_some_iff.1 hL).1 rfl
            have hmx : m = 1 := by
              have := C.win.src k _ hx |>.2.1
              rw [← hkeep] at this hm2
              simp at this hm2; omega
            have hrr : r = r1 := by rw [← hkeep] at hk1; simpa using hk1
            subst hrr hmx
            exact .inl ⟨rfl, by rw [(C.miss hko).1, hb1], by rw [C.kept_phi hx hm2]; simp [phB, hko, adr]⟩
          · simp at hk
        · rename_i b' g0 lo n
          split at hk
          · rename_i hro
            simp at hk; obtain ⟨rfl, rfl, rfl⟩ := hk
            obtain ⟨_, _, r1, m1, hb1, hm1, hle, hx1, hk1⟩ := hsrc
            obtain ⟨_, _, hL⟩ := roB_some hro
            have hag := C.agr b' (touched_mem hx rfl)
            rw [hb1, hL] at hag
            simp at hag; obtain ⟨_, _, rfl⟩ := hag
            have hko := C.kOf_ro hb1 (List.getElem?_eq_some_iff.1 hL).1 rfl
            have hmx : m = 1 := by rw [← hkeep] at hx1; simpa using hx1
            have hrr : r = U.cut r1 lo n := by rw [← hkeep] at hk1; simpa using hk1
            subst hmx
            refine .inr ⟨lo, n, r1, rfl, hrr, hle, rfl, by rw [(C.miss hko).1, hb1], ?_⟩
            rw [C.kept_phi hx hm2]
            simp only [adr, phB, hko]
            rw [hk1]
            simp only [(U.cut_eq r1 lo n).1]
          · simp at hk
        · simp at hk
  · simp at hk

theorem SlOk.move {φ1 φ2 : Phi} {b1 b2 m : Nat} {r : R} {lo n : Nat} {v : Value} (hφ : φ2 b2 = φ1 b1) (hs : SlOk U φ1 w' b1 m r lo n v) : SlOk U φ2 w' b2 m r lo n v := by
  obtain ⟨h0, A, cap, rfl, h1, h2, h3⟩ := hs
  refine ⟨h0, A, cap, rfl, h1, h2, h3.imp id fun ⟨a, ha, h4⟩ => ⟨a, hφ.trans ha, h4⟩⟩
theorem SlOk.uncut {φ1 φ2 : Phi} {b1 b2 l0 n0 : Nat} {r : R} {lo n : Nat} {v : Value} (hφ : φ1 b1 = (φ2 b2).map fun a => a.add (l0 * U.esz (U.tag r))) (hle : l0 + n0 ≤ U.len r) (hs : SlOk U φ1 w' b1 1 (U.cut r l0 n0) lo n v) : SlOk U φ2 w' b2 1 r (l0 + lo) n v := by
  obtain ⟨h0, A, cap, rfl, h1, h2, h3⟩ := hs
  rw [len_cut r l0 n0 hle] at h0
  refine ⟨by omega, A, cap, rfl, h1, fun e => by simp at e, h3.imp id fun ⟨a, ha, hA, _⟩ => ?_⟩
  rw [hφ] at ha
  obtain ⟨a0, ha0, rfl⟩ := Option.map_eq_some_iff.1 ha
  refine ⟨a0, ha0, ?_, fun e => by simp at e⟩
  rw [hA, (U.cut_eq r l0 n0).1, add_add, Nat.add_mul]

/-- WHAT THE CALLEE CALLS A CELL, THE CALLER MAY CALL SO. -/
theorem renC_ok (C : Came U φ h w ws L H φ' w' Wc) {c : Go.Eng.C} {v : Value} (hr : RelC U φ' (fun b => H[b]?) w' c v) : RelC U (phB φ φ' ws L H) (hpB h ws L H) w' (renC ws L H c) v := by
  have one := RelC.one U hr
  cases c <;> simp only [renC]
  case sl k g =>
    split
    · rename_i b G hT
      obtain ⟨r, m, hH, hm, ⟨_, h1, h2⟩ | ⟨_, _, _, e, _⟩⟩ := rowT_ok C hT
      · refine ⟨one, _, h1, Nat.le_refl _, fun _ _ r' hr' => ?_⟩
        simp at hr'; subst hr'
        exact (rel_sl hr hH hm).move h2
      · simp at e
    · rename_i b G lo n hT
      obtain ⟨r, m, hH, hm, ⟨e, _⟩ | ⟨l0, n0, r0, e, rfl, hle, rfl, h1, h2⟩⟩ := rowT_ok C hT
      · simp at e
      · simp at e; obtain ⟨rfl, rfl⟩ := e
        refine ⟨one, _, h1, Nat.le_refl _, fun _ _ r' hr' => ?_⟩
        simp at hr'; subst hr'
        have := (rel_sl hr hH hm).uncut h2 hle
        rw [len_cut r0 lo n hle] at this
        exact this
    · exact one
  case sc k g lo n =>
    split
    · rename_i b G hT
      obtain ⟨r, m, hH, hm, ⟨_, h1, h2⟩ | ⟨_, _, _, e, _⟩⟩ := rowT_ok C hT
      · refine ⟨one, _, h1, Nat.le_refl _, fun _ _ r' hr' => ?_⟩
        simp at hr'; subst hr'
        exact (rel_sc hr hH hm).move h2
      · simp at e
    · rename_i b G l0 n0 hT
      obtain ⟨r, m, hH, hm, ⟨e, _⟩ | ⟨l1, n1, r0, e, rfl, hle, rfl, h1, h2⟩⟩ := rowT_ok C hT
      · simp at e
      · simp at e; obtain ⟨rfl, rfl⟩ := e
        refine ⟨one, _, h1, Nat.le_refl _, fun _ _ r' hr' => ?_⟩
        simp at hr'; subst hr'
        exact (rel_sc hr hH hm).uncut h2 hle
    · exact one
  case sf k g lo n =>
    split
    · rename_i b G hT
      obtain ⟨r, m, hH, hm, ⟨_, h1, h2⟩ | ⟨_, _, _, e, _⟩⟩ := rowT_ok C hT
      · refine ⟨one, _, h1, Nat.le_refl _, fun _ _ r' hr' => ?_⟩
        simp at hr'; subst hr'
        obtain ⟨q0, A, rfl, q1⟩ := rel_sf (w := w') hr hH hm
        exact ⟨q0, A, rfl, q1.imp id fun ⟨a, ha, hA⟩ => ⟨a, h2.trans ha, hA⟩⟩
      · simp at e
    · exact one
  case pr k g i o =>
    split
    · rename_i b G hT
      obtain ⟨r, m, hH, hm, ⟨_, h1, h2⟩ | ⟨_, _, _, e, _⟩⟩ := rowT_ok C hT
      · refine ⟨one, _, h1, Nat.le_refl _, fun _ _ r' hr' => ?_⟩
        simp at hr'; subst hr'
        obtain ⟨q0, a, ha, hv⟩ := rel_pr (w := w') hr hH hm
        exact ⟨q0, a, h2.trans ha, hv⟩
      · simp at e
    · exact one
  case ptr k off =>
    obtain ⟨cs, g, m, hH, hm, a, ha, rfl⟩ := hr
    replace hH : H[k]? = some ⟨.box cs, g, m⟩ := hH
    split
    · rename_i b o n x hx
      have hsrc := C.win.src k _ hx
      by_cases hm2 : x.m = 2
      · have hko := C.kOf_own hx hm2 rfl
        obtain ⟨blk, G, e1, e2, e3, e4, _⟩ := C.hit hko
        rw [hH] at e1; simp at e1; subst e1
        obtain ⟨_, _, cs1, g1, m1, hb1, _, hwh, _⟩ := hsrc
        obtain ⟨_, rfl, _⟩ := hwh hm2
        exact ⟨_, _, _, e3, by simp, a, by simp [phB, hko, ha], by rw [Nat.zero_add]⟩
      · have hphi := C.kept_phi hx hm2
        obtain ⟨_, _, cs1, g1, m1, hb1, hm1, _⟩ := hsrc
        rw [ha] at hphi
        have hphi := hphi.symm
        obtain ⟨a0, ha0, rfl⟩ := Option.map_eq_some_iff.1 hphi
        have hko : kOf ws L H b = none := by
          cases hq : kOf ws L H b with
          | none => rfl
          | some k' =>
            exfalso
            have hbl := (C.inL hx rfl).1
            unfold kOf at hq
            rw [if_pos hbl] at hq
            obtain ⟨_, y, hy, hym, hyb⟩ := findW_some hq
            rw [Nat.sub_zero] at hy
            by_cases e : k' = k
            · subst e; rw [hx] at hy; simp at hy; subst hy; exact hm2 hym
            · exact lone_ne C.lone hy hx e hym hyb rfl
        exact ⟨cs1, g1, m1, by rw [(C.miss hko).1, hb1], hm1, a0, by simp [phB, hko, ha0], by rw [add_add]⟩
    · exact rfl
    · rename_i hnone
      have hge : ws.length ≤ k := by
        rcases Nat.lt_or_ge k ws.length with hlt | hge
        · rw [List.getElem?_eq_getElem hlt] at hnone; simp at hnone
        · exact hge
      have hko := C.kOf_new hge (List.getElem?_eq_some_iff.1 hH).1
      obtain ⟨blk, G, e1, e2, e3, _⟩ := C.hit hko
      rw [hH] at e1; simp at e1; subst e1
      exact ⟨_, _, _, e3, by simp, a, by simp [phB, hko, ha], rfl⟩
  case fn => exact one
  case sb => exact one
  all_goals exact hr

theorem renV_ok (C : Came U φ h w ws L H φ' w' Wc) {x : V} {v : Value} (hr : RelV U φ' (fun b => H[b]?) w' x v) : RelV U (phB φ φ' ws L H) (hpB h ws L H) w' (renV ws L H x) v := by
  cases x with
  | c c => exact renC_ok C hr
  | a cs =>
    obtain ⟨us, rfl, ha⟩ := hr
    exact ⟨us, rfl, All2.map (f := renC ws L H) (ha.mono fun _ _ h => renC_ok C h)⟩
  | t ps =>
    obtain ⟨us, rfl, ha⟩ := hr
    refine ⟨us, rfl, All2.map (f := fun p : Bool × List Go.Eng.C => (p.1, p.2.map (renC ws L H))) (ha.mono fun p v h => ?_)⟩
    obtain ⟨ag, cs⟩ := p
    cases ag with
    | true =>
      obtain ⟨us, rfl, ha⟩ := h
      exact ⟨us, rfl, All2.map (f := renC ws L H) (ha.mono fun _ _ h => renC_ok C h)⟩
    | false =>
      obtain ⟨c, hc, h⟩ := h
      simp only at hc; subst hc
      exact ⟨_, rfl, renC_ok C h⟩
  | j => trivial
/-- Blocks that the callee did not have stay as they were. -/
theorem Came.same (C : Came U φ h w ws L H φ' w' Wc) {b : Nat} (hk : kOf ws L H b = none) {blk : Blk R} (hb : h b = some blk) (hm : blk.m ≠ 0) {a : Addr} (ha : φ b = some a) : w'.heap[a.block]? = w.heap[a.block]? := by
  refine C.st.kept.blk a.block (C.sim.lt b blk a hb hm ha) fun k hkw x a0 hx hx2 ha0 => ?_
  obtain ⟨y, hy, rfl⟩ := Option.map_eq_some_iff.1 hx
  simp only [phW, hy, Option.bind_some] at ha0
  obtain ⟨b1, a1, h1, h2, h3⟩ := adr_blk ha0
  obtain ⟨blk1, h4, h5, h6⟩ := src_blk (C.win.src k y hy) h1
  have hne : b1 ≠ b := fun e => (C.miss hk).2.1 k y hy hx2 (by rw [h1, e])
  rw [h3]
  exact C.sim.apart b1 b blk1 blk a1 a hne h4 hb (h6 hx2) hm h2 ha

theorem Came.ext (C : Came U φ h w ws L H φ' w' Wc) : Ext U φ h w (phB φ φ' ws L H) (hpB h ws L H) w' := by
  intro b blk hb
  cases hk : kOf ws L H b with
  | none =>
    have hd : blk.m ≠ 0 → HdrOk U w w' φ (phB φ φ' ws L H) b blk blk := fun hm => ⟨rfl, by simp [phB, hk], fun r hr => ⟨r, hr, rfl, rfl⟩, fun cs hc => ⟨cs, hc⟩, fun a ha cs t fr hc =>
      ⟨cs, t, fr, by rw [C.same hk hb hm ha]; exact hc, Nat.le_refl _⟩⟩
    exact ⟨blk, by rw [(C.miss hk).1, hb], Nat.le_refl _, fun hm cs hc => ⟨⟨cs, hc⟩, hd hm⟩, fun hm _ => hd hm⟩
  | some k =>
    obtain ⟨x, G, e1, e2, e3, e4, _⟩ := C.hit hk
    rcases e4 with ⟨hn, _⟩ | ⟨y, b0, hy, hym, hyb, hb0, hb0m, rfl⟩
    · rw [hb] at hn; simp at hn
    · rw [hb] at hb0; simp at hb0; subst hb0
      have hsrc := C.win.src k y hy
      obtain ⟨x', hx', g1, g2, g3⟩ := C.st.ext k y.2 (by simp [hpW, hy])
      replace hx' : H[k]? = some x' := hx'
      rw [e1] at hx'; simp at hx'; subst hx'
      have hphiW : phW U φ ws k = adr U φ y := by simp [phW, hy]
      have hphB : phB φ φ' ws L H b = φ' k := by simp [phB, hk]
      obtain ⟨s, yb⟩ := y
      simp only at hym
      obtain ⟨hg0, _, hsrc⟩ := hsrc
      simp only at hg0
      obtain ⟨bk, ok3, _, ok5, ok6⟩ := backOk_get C.ok hy hym
      rw [Nat.zero_add, e1] at ok3
      simp at ok3; subst ok3
      cases s with
      | row b' g0 =>
        simp [Src.blk] at hyb; subst hyb
        obtain ⟨r, m, hb1, hm1, _, hyk⟩ := hsrc
        rw [hb] at hb1; simp at hb1; subst hb1
        simp only at hyk
        have hxr : ∃ r', x.k = .row r' := by
          cases hq : x.k with
          | row r' => exact ⟨r', rfl⟩
          | box cs => obtain ⟨_, _, _, e⟩ := ok5.1 ⟨cs, hq⟩; simp at e
        obtain ⟨r', hxr⟩ := hxr
        refine ⟨_, e3, by simp, fun _ cs hc => by simp at hc, fun _ eg => ?_⟩
        simp only [hxr] at eg
        have hg : x.g = 0 := by omega
        have hd := g3 (by omega) (by omega)
        obtain ⟨r0, q1, q2, q3⟩ := hd.row r' hxr
        rw [hyk] at q1; simp at q1; subst q1
        refine ⟨by simpa using hb0m.symm, by rw [hphB, hd.phi, hphiW]; rfl, fun r2 hr2 => ?_, fun cs hc => by simp [renK, hxr] at hc, fun a ha cs t fr hc => hd.size a (by rw [hphiW]; exact ha) cs t fr hc⟩
        simp [renK, hxr] at hr2; subst hr2
        exact ⟨r, rfl, q2, q3⟩
      | cut b' g0 lo n => exact absurd rfl (ok6 b' g0 lo n)
      | box b' off n =>
        simp [Src.blk] at hyb; subst hyb
        obtain ⟨cs1, g, m, hb1, hm1, hwh, _, cs2, hyk⟩ := hsrc
        obtain ⟨_, rfl, _⟩ := hwh hym
        rw [hb] at hb1; simp at hb1; subst hb1
        simp only at hyk
        obtain ⟨⟨cs', hxb⟩, hd⟩ := g2 (by simp only; omega) cs2 hyk
        have hphi : phB φ φ' ws L H b' = φ b' := by
          rw [hphB, hd.phi, hphiW]
          simp only [adr]
          cases φ b' <;> simp [add_zero']
        have hdd : HdrOk U w w' φ (phB φ φ' ws L H) b' ⟨.box cs1, g, m⟩ ⟨renK ws L H x.k, g + (match x.k with | .row _ => x.g | .box _ => 0), 2⟩ :=
          ⟨by simpa using hb0m.symm, hphi, fun r hr => by simp [renK, hxb] at hr, fun cs hc => ⟨cs1, rfl⟩, fun a ha cs t fr hc => hd.size a (by rw [hphiW]; simp [adr, ha, add_zero']) cs t fr hc⟩
        exact ⟨_, e3, by simp, fun _ cs hc => ⟨⟨cs'.map (renC ws L H), by simp [renK, hxb]⟩, hdd⟩, fun _ _ => hdd⟩
      | nil tg => simp [Src.blk] at hyb

theorem Came.adr_old (C : Came U φ h w ws L H φ' w' Wc) {k : Nat} {a : Addr} (ha : φ' k = some a) (hm : ∀ x, ws[k]? = some x → x.2.m = 2) : (∃ x b blk a0, ws[k]? = some x ∧ x.1.blk = some b ∧ h b = some blk ∧ blk.m = 2 ∧ φ b = some a0 ∧ a0.block = a.block) ∨ w.heap.size ≤ a.block ∨ ws.length ≤ k := by
  rcases Nat.lt_or_ge k ws.length with hlt | hge
  · have hx := List.getElem?_eq_getElem hlt
    have hxm := hm _ hx
    have go : ∀ (a1 : Addr), phW U φ ws k = some a1 → a1.block = a.block → ∃ x b blk a0, ws[k]? = some x ∧ x.1.blk = some b ∧ h b = some blk ∧ blk.m = 2 ∧ φ b = some a0 ∧ a0.block = a.block := by
      intro a1 h1 h2
      simp only [phW, hx, Option.bind_some] at h1
      obtain ⟨b, a0, q1, q2, q3⟩ := adr_blk h1
      obtain ⟨blk, q4, _, q5⟩ := src_blk (C.win.src k _ hx) q1
      exact ⟨_, b, blk, a0, hx, q1, q4, q5 hxm, q2, by rw [← q3, h2]⟩
    by_cases hw : k ∈ Wc
    · rcases C.st.new k hw a ha with ⟨_, a1, _, _, h1, h2⟩ | h1
      · exact .inl (go a1 h1 h2)
      · exact .inr (.inl h1)
    · rw [C.st.phi k hw] at ha
      exact .inl (go a ha rfl)
  · exact .inr (.inr hge)
theorem Came.adr_new (C : Came U φ h w ws L H φ' w' Wc) {k : Nat} {a : Addr} (ha : φ' k = some a) (hk : ws.length ≤ k) (hH : k < H.length) : w.heap.size ≤ a.block := by
  have hw : k ∈ Wc := by
    refine Classical.byContradiction fun hw => ?_
    rw [C.st.phi k hw] at ha
    simp [phW, List.getElem?_eq_none hk] at ha
  rcases C.st.new k hw a ha with ⟨blk, _, h1, _⟩ | h1
  · simp [hpW, List.getElem?_eq_none hk] at h1
  · exact h1

/-- THE CALLER'S HEAP BEHIND A CALL STANDS FOR THE WORLD BEHIND IT. -/
theorem Came.stp (C : Came U φ h w ws L H φ' w' Wc) : Stp U φ h w (phB φ φ' ws L H) (hpB h ws L H) w' (written ws ++ newIx L (backL ws L H)) := by
  have he := C.ext
  have hwm : ∀ {b k : Nat}, kOf ws L H b = some k → ∀ x, ws[k]? = some x → x.2.m = 2 := by
    intro b k hk x hx
    obtain ⟨blk, G, e1, e2, _⟩ := C.hit hk
    refine Classical.byContradiction fun hne => ?_
    unfold kOf at hk
    split at hk
    · obtain ⟨_, y, hy, hm, _⟩ := findW_some hk
      rw [Nat.sub_zero, hx] at hy; simp at hy; subst hy; exact hne hm
    · split at hk
      · simp at hk; subst hk
        rw [List.getElem?_eq_none (by omega)] at hx; simp at hx
      · obtain ⟨_, y, hy, hm, _⟩ := nilsW_get (List.mem_of_getElem? hk)
        rw [Nat.sub_zero, hx] at hy; simp at hy; subst hy; exact hne hm
  -- blocks of the callee lie apart from what the caller kept
  have hsep : ∀ {b b' k : Nat} {blk : Blk R} {a a' : Addr}, kOf ws L H b = some k → φ' k = some a → kOf ws L H b' = none → h b' = some blk → blk.m ≠ 0 → φ b' = some a' → a.block ≠ a'.block := by
    intro b b' k blk a a' hk ha hk' hb' hm' ha'
    have hlt := C.sim.lt b' blk a' hb' hm' ha'
    obtain ⟨x, G, e1, _⟩ := C.hit hk
    rcases C.adr_old ha (hwm hk) with ⟨y, b0, blk0, a0, h1, h2, h3, h4, h5, h6⟩ | h1 | h1
    · rw [← h6]
      have hne : b0 ≠ b' := fun e => (C.miss hk').2.1 k y h1 (hwm hk y h1) (by rw [h2, e])
      exact C.sim.apart b0 b' blk0 blk a0 a' hne h3 hb' h4 hm' h5 ha'
    · omega
    · have := C.adr_new ha h1 (List.getElem?_eq_some_iff.1 e1).1
      omega
  refine ⟨⟨fun b blk a hb hm ha => ?_, fun b blk hb => ?_, fun b b' blk blk' a a' hne hb hb' hm hm' ha ha' => ?_⟩, he, ⟨C.st.kept.os, C.st.kept.tape, C.st.kept.output, C.st.kept.size, fun i hi hno => ?_⟩, fun b hb => ?_, fun b hb a ha => ?_, fun b hb => ?_⟩
  · cases hk : kOf ws L H b with
    | none =>
      rw [(C.miss hk).1] at hb
      simp only [phB, hk] at ha
      exact Nat.lt_of_lt_of_le (C.sim.lt b blk a hb hm ha) C.st.kept.size
    | some k =>
      obtain ⟨x, G, e1, e2, _⟩ := C.hit hk
      simp only [phB, hk] at ha
      exact C.st.sim.lt k x a e1 (by omega) ha
  · cases hk : kOf ws L H b with
    | none =>
      rw [(C.miss hk).1] at hb
      by_cases hm : blk.m = 0
      · simp [BlkOk, hm]
      · exact (C.sim.blk b blk hb).keep he (by simp [phB, hk]) fun a ha x hx => by rw [C.same hk hb hm ha]; exact hx
    | some k =>
      obtain ⟨x, G, e1, e2, e3, _⟩ := C.hit hk
      rw [e3] at hb; simp at hb; subst hb
      obtain ⟨xk, xg, xm⟩ := x
      simp only at e2; subst e2
      have hph : phB φ φ' ws L H b = φ' k := by simp [phB, hk]
      unfold BlkOk
      simp only [Nat.reduceEqDiff, if_false, if_true]
      rcases C.st.sim.own e1 with ⟨r, rfl, hl, hn⟩ | ⟨a, ha, hsp, cs, t, lo, hi, hc, hf, hcells⟩
      · exact .inl ⟨r, rfl, hl, hph.trans hn⟩
      · refine .inr ⟨a, hph.trans ha, hsp, cs, t, lo, hi, hc, hf, fun i c hi => ?_⟩
        cases xk with
        | row r =>
          obtain ⟨v, hv, hr⟩ := hcells i c hi
          exact ⟨v, hv, hr.plain U (flat_plain hi)⟩
        | box ds =>
          simp only [renK, flat, List.getElem?_map] at hi
          obtain ⟨c0, hc0, rfl⟩ := Option.map_eq_some_iff.1 hi
          obtain ⟨v, hv, hr⟩ := hcells i c0 hc0
          exact ⟨v, hv, renC_ok C hr⟩
  · cases hk : kOf ws L H b with
    | none =>
      rw [(C.miss hk).1] at hb
      simp only [phB, hk] at ha
      cases hk' : kOf ws L H b' with
      | none =>
        rw [(C.miss hk').1] at hb'
        simp only [phB, hk'] at ha'
        exact C.sim.apart b b' blk blk' a a' hne hb hb' hm hm' ha ha'
      | some k' =>
        simp only [phB, hk'] at ha'
        exact (hsep hk' ha' hk hb (by omega) ha).symm
    | some k =>
      simp only [phB, hk] at ha
      obtain ⟨x, G, e1, e2, _⟩ := C.hit hk
      cases hk' : kOf ws L H b' with
      | none =>
        rw [(C.miss hk').1] at hb'
        simp only [phB, hk'] at ha'
        exact hsep hk ha hk' hb' hm' ha'
      | some k' =>
        simp only [phB, hk'] at ha'
        obtain ⟨x', G', e1', e2', _⟩ := C.hit hk'
        have hkk : k ≠ k' := fun e => hne (C.inj hk (e ▸ hk'))
        exact C.st.sim.apart k k' x x' a a' hkk e1 e1' e2 (by omega) ha ha'
  · refine C.st.kept.blk i hi fun k hkw x a0 hx hx2 ha0 => ?_
    obtain ⟨y, hy, rfl⟩ := Option.map_eq_some_iff.1 hx
    simp only [phW, hy, Option.bind_some] at ha0
    obtain ⟨b1, a1, h1, h2, h3⟩ := adr_blk ha0
    obtain ⟨blk1, h4, h5, h6⟩ := src_blk (C.win.src k y hy) h1
    rw [h3]
    exact hno b1 (List.mem_append_left _ (written_mem.2 ⟨k, y, hy, hx2, h1⟩)) blk1 a1 h4 (h6 hx2) h2
  · have hk : kOf ws L H b = none := by
      cases hk : kOf ws L H b with
      | none => rfl
      | some k =>
        obtain ⟨_, _, _, _, _, _, h5⟩ := C.hit hk
        exact absurd (List.mem_append.2 h5) hb
    simp [phB, hk]
  · cases hk : kOf ws L H b with
    | none => exact absurd (List.mem_append.1 hb) (C.miss hk).2.2
    | some k =>
      simp only [phB, hk] at ha
      obtain ⟨x, G, e1, e2, e3, e4, e5⟩ := C.hit hk
      rcases C.adr_old ha (hwm hk) with ⟨y, b0, blk0, a0, h1, h2, h3, h4, h5, h6⟩ | h1 | h1
      · rcases e4 with ⟨hn, _, hnw⟩ | ⟨y', b1, hy', _, hyb, hb1, _⟩
        · exfalso
          have hko := C.kOf_own h1 (hwm hk y h1) h2
          have := C.inj hk hko
          subst this
          rw [h3] at hn; simp at hn
        · rw [h1] at hy'; simp at hy'; subst hy'
          rw [h2] at hyb; simp at hyb; subst hyb
          exact .inl ⟨blk0, a0, h3, h4, h5, h6⟩
      · exact .inr h1
      · exact .inr (C.adr_new ha h1 (List.getElem?_eq_some_iff.1 e1).1)
  · rcases List.mem_append.1 hb with hb | hb
    · obtain ⟨k, x, hx, hm, hxb⟩ := written_mem.1 hb
      obtain ⟨blk, h1, _, h2⟩ := src_blk (C.win.src k x hx) hxb
      exact .inl ⟨blk, h1, h2 hm⟩
    · exact .inr (C.fresh b hb)
end
end Go.Eng
/- The engine, part 21: calls. -/
namespace Go.Eng
section
variable {R : Type} {U : RowU R} {P : Program} {tagT : TypeId → Option Nat} {ρ : Type}

/-- A function that is called answers so. -/
def FnDoes (P : Program) (f : FuncId) (args : Array Value) (w : World) (S : Value → World → Prop) : Prop :=
  ∀ (o : Oper) (a : Act) next Q, (∀ v w', S v w' → next (a.put o.dst v) w') → o.upon P a next Q ((callFunc f args).run P w)
theorem FnDoes.of_calls {f : FuncId} {fn : Func} {args : Array Value} {w : World} {S : Value → World → Prop} (hf : P.funcs[f]? = some fn) (hn : (fn.name == "runtime.NumGoroutine") = false) (hb : fn.body.isSome = true)
    (h : Calls P f args w fun e w' => ∃ v, e = .returned v ∧ S v w') : FnDoes P f args w S := by
  intro o a next Q hnext
  have h1 : ¬ fn.name = "runtime.NumGoroutine" := by simpa using hn
  have h2 : ¬ fn.body = none := by intro e; rw [e] at hb; simp at hb
  have : (callFunc f args).run P w = .ok (.enter f args) w := by
    simp [callFunc, hf, h1, h2]
  rw [this, Oper.upon_enter]
  refine h.mono fun e w' hR => ?_
  obtain ⟨v, rfl, hS⟩ := hR
  exact hnext v w' hS
theorem FnDoes.of_run {f : FuncId} {args : Array Value} {w w' : World} {v : Value} {S : Value → World → Prop} (h : (callFunc f args).run P w = .ok (.value v) w') (hS : S v w') : FnDoes P f args w S := by
  intro o a next Q hnext
  rw [h]
  exact hnext v w' hS
theorem FnDoes.mono {f : FuncId} {args : Array Value} {w : World} {S S' : Value → World → Prop} (h : FnDoes P f args w S) (hm : ∀ v w', S v w' → S' v w') : FnDoes P f args w S' :=
  fun o a next Q hn => h o a next Q fun v w' hv => hn v w' (hm v w' hv)

abbrev hpL (L : Heap R) : Hp R := fun b => L[b]?

/-- What a call leaves, in the callee's words. -/
def Left (U : RowU R) (W : Heap R) (φ : Phi) (w : World) (v : V) (H : Heap R) (val : Value) (w' : World) : Prop :=
  ∃ φ' Wc, RelV U φ' (hpL H) w' v val ∧ Stp U φ (hpL W) w φ' (hpL H) w' Wc ∧ ∀ (k : Nat) x, W[k]? = some x → x.m ≠ 2 → H[k]? = some x

/-- WHAT IS TOLD OF A CALLEE IS TRUE. -/
def CalleeOk (P : Program) (U : RowU R) (f : Nat) (ce : Callee R) : Prop :=
  ∀ (ρ : Type) (vs : List V) (W : Heap R) (K : V → Heap R → Option ρ) (r : ρ), ce.t ρ vs W K = some r →
    ∃ v H, K v H = some r ∧
      ∀ (φ : Phi) (w : World) (args : Array Value), Sim U φ (hpL W) w → All2 (RelV U φ (hpL W) w) vs args.toList → FnDoes P f args w (Left U W φ w v H)
def TabOk (P : Program) (U : RowU R) (T : List (Nat × Callee R)) : Prop := ∀ f ce, (f, ce) ∈ T → CalleeOk P U f ce

variable {L : Heap R}
theorem backL_out {ws : Wins R} {H : Heap R} {b : Nat} (hb : b ∉ written ws ++ newIx L (backL ws L H)) : (backL ws L H)[b]? = L[b]? := by
  have hlen := backL_len ws L H
  have h1 : ¬ (b ∈ written ws ∨ b ∈ newIx L (backL ws L H)) := by simpa using hb
  rcases Nat.lt_or_ge b L.length with hlt | hge
  · have hf : findW b 0 ws = none := by
      cases hf : findW b 0 ws with
      | none => rfl
      | some k =>
        obtain ⟨_, x, hx, hm, hxb⟩ := findW_some hf
        rw [Nat.sub_zero] at hx
        exact absurd (.inl (written_mem.2 ⟨k, x, hx, hm, hxb⟩)) h1
    unfold backL
    rw [List.append_assoc, List.getElem?_append_left (by rw [mapIx_len]; exact hlt), mapIx_get, Nat.zero_add, List.getElem?_eq_getElem hlt]
    simp [backB, hf]
  · have : (backL ws L H).length ≤ b := by
      rcases Nat.lt_or_ge b (backL ws L H).length with h2 | h2
      · exact absurd (.inr (newIx_mem.2 ⟨hge, h2⟩)) h1
      · exact h2
    rw [List.getElem?_eq_none this, List.getElem?_eq_none hge]

/-- A CALL THAT WAS EVALUATED. -/
theorem evCall_ok {T : List (Nat × Callee R)} (hT : TabOk P U T) {f : Nat} {vs : List V} {K : KV R ρ} {r : ρ} (hK : evCall U T L f vs K = some r) :
    ∃ v L' A W, K v L' A W = some r ∧ (∀ b ∈ W, b ∈ A) ∧ (∀ b : Nat, b ∉ W → L'[b]? = L[b]?) ∧ L.length ≤ L'.length ∧
      ∀ (h : Hp R) (φ : Phi) (w : World) (args : Array Value), (∀ b ∈ A, h b = L[b]?) → All2 (RelV U φ h w) vs args.toList → Sim U φ h w →
        FnDoes P f args w fun val w' => ∃ φ', RelV U φ' (upd h L' W) w' v val ∧ Stp U φ h w φ' (upd h L' W) w' W := by
  unfold evCall at hK
  split at hK
  · rename_i f0 ce hfind
    have hf0 : f0 = f := by have := List.find?_some hfind; simpa using this
    subst hf0
    have hce := hT f0 ce (List.mem_of_find?_eq_some hfind)
    split at hK
    · rename_i vs' ws hex
      split at hK
      · rename_i hlone
        obtain ⟨v, H, hK1, hdo⟩ := hce _ _ _ _ _ hK
        split at hK1
        · rename_i hcond
          obtain ⟨hlen, hall, hok⟩ := hcond
          refine ⟨_, _, _, _, hK1, fun b hb => ?_, fun b hb => backL_out hb, by rw [backL_len]; omega, fun h φ w args hA hargs hsim => ?_⟩
          · rcases List.mem_append.1 hb with hb | hb
            · obtain ⟨k, x, hx, _, hxb⟩ := written_mem.1 hb
              exact List.mem_append_left _ (touched_mem hx hxb)
            · exact List.mem_append_right _ hb
          · have hA1 : ∀ b ∈ touched ws, h b = L[b]? := fun b hb => hA b (List.mem_append_left _ hb)
            obtain ⟨hw, hrel⟩ := exVs_ok hsim vs [] vs' ws args.toList hex .nil hA1 hargs
            have hwin := win_sim hsim hw hlone
            have hhp : hpW ws = hpL (ws.map (·.2)) := by funext k; simp [hpW, hpL]
            rw [hhp] at hwin hrel
            refine (hdo _ w args hwin hrel).mono fun val w' hleft => ?_
            obtain ⟨φ', Wc, hrv, hst, hkeep⟩ := hleft
            have hC : Came U φ h w ws L H φ' w' Wc := {
              sim := hsim, win := hw, lone := hlone, agr := hA1
              fresh := fun b hb => by
                rw [hA b (List.mem_append_right _ hb)]
                exact List.getElem?_eq_none (newIx_mem.1 hb).1
              st := by rw [hhp]; exact hst
              wr := fun k hk => by
                rcases hst.own k hk with ⟨x, hx, hm⟩ | hn
                · simp only [hpL, List.getElem?_map] at hx
                  obtain ⟨y, hy, rfl⟩ := Option.map_eq_some_iff.1 hx
                  exact .inl ⟨y, hy, hm⟩
                · right
                  simpa [hpL] using hn
              keep := fun k x hx hm => hkeep k x.2 (by rw [List.getElem?_map, hx]; rfl) hm
              ok := hok, len := hlen
              own := fun k x hk hx => by
                have := List.all_eq_true.1 hall x (List.mem_of_getElem? (i := k - ws.length) (by rw [List.getElem?_drop, show ws.length + (k - ws.length) = k by omega]; exact hx))
                simpa using this }
            exact ⟨_, renV_ok hC hrv, hC.stp⟩
        · simp at hK1
      · simp at hK
    · simp at hK
  · simp at hK

variable {fr : Fr} {o : Oper} {K : KV R ρ} {r : ρ} {op : SOp}

theorem fold_caps {caps : List Nat} {φ : Phi} {h : Hp R} {w : World} {vs : List Value} (ha : All2 (fun b v => PtrOk φ h b 0 v) caps vs) : All2 (RelV U φ h w) (caps.map fun b => V.c (.ptr b 0)) vs :=
  All2.map (f := fun b => V.c (.ptr b 0)) ha

theorem comp1_calls (hc : comp1 P tagT o = some op) (hop : (∃ f xs, op = .call f xs) ∨ ∃ x xs, op = .callv x xs) : ∃ c, o.op = .call c := by
  cases ho : o.op
  case call c => exact ⟨c, rfl⟩
  all_goals exfalso
  all_goals rcases hop with ⟨f, xs, rfl⟩ | ⟨x, xs, rfl⟩
  all_goals simp only [comp1, ho] at hc
  case buildSlice.inl =>
    simp only [Option.bind_eq_some_iff] at hc
    obtain ⟨_, _, _, _, _, _, hc⟩ := hc
    split at hc
    · simp at hc
    · split at hc <;> simp at hc
  case buildSlice.inr =>
    simp only [Option.bind_eq_some_iff] at hc
    obtain ⟨_, _, _, _, _, _, hc⟩ := hc
    split at hc
    · simp at hc
    · split at hc <;> simp at hc
  case indexAddr.inl =>
    split at hc
    · simp only [Option.bind_eq_some_iff] at hc
      obtain ⟨_, _, _, _, hc⟩ := hc
      split at hc
      · simp at hc
      · split at hc <;> simp at hc
    · simp at hc
  case indexAddr.inr =>
    split at hc
    · simp only [Option.bind_eq_some_iff] at hc
      obtain ⟨_, _, _, _, hc⟩ := hc
      split at hc
      · simp at hc
      · split at hc <;> simp at hc
    · simp at hc
  all_goals (repeat' split at hc)
  all_goals simp [Option.bind_eq_some_iff] at hc
  all_goals contradiction

theorem comp1_call {f : Nat} {xs : List Opd} (hc : comp1 P tagT o = some (.call f xs)) : ∃ c us, o.op = .call c ∧ c.callee = .value (.func f) ∧ ofOps P tagT us c.args.toList = some xs := by
  obtain ⟨c, ho⟩ := comp1_calls hc (.inl ⟨f, xs, rfl⟩)
  simp only [comp1, ho] at hc
  split at hc
  · rename_i hcal
    obtain ⟨xs', h1, h2⟩ := Option.map_eq_some_iff.1 hc
    simp at h2; obtain ⟨rfl, rfl⟩ := h2
    exact ⟨c, _, ho, hcal, h1⟩
  all_goals exfalso
  all_goals (repeat' split at hc)
  all_goals simp [Option.bind_eq_some_iff] at hc
theorem comp1_callv {x : Opd} {xs : List Opd} (hc : comp1 P tagT o = some (.callv x xs)) : ∃ c X, o.op = .call c ∧ c.callee = .value X ∧ ofOp P tagT none X = some x ∧ ofOps P tagT [] c.args.toList = some xs := by
  obtain ⟨c, ho⟩ := comp1_calls hc (.inr ⟨x, xs, rfl⟩)
  simp only [comp1, ho] at hc
  split at hc
  · obtain ⟨_, _, h2⟩ := Option.map_eq_some_iff.1 hc
    simp at h2
  · rename_i X _ hcal
    simp only [Option.bind_eq_some_iff, Option.map_eq_some_iff] at hc
    obtain ⟨x', h1, xs', h2, h3⟩ := hc
    simp at h3; obtain ⟨rfl, rfl⟩ := h3
    exact ⟨c, X, ho, hcal, h1, h2⟩
  all_goals exfalso
  all_goals (repeat' split at hc)
  all_goals simp [Option.bind_eq_some_iff] at hc

theorem evOpC_ok (hT : TagOk P U tagT) {T : List (Nat × Callee R)} (hTab : TabOk P U T) (hc : comp1 P tagT o = some op) (hK : evOpC U T fr L op K = some r) : Res P U fr L op o K r := by
  unfold evOpC at hK
  split at hK
  · rename_i f xs
    split at hK
    · rename_i vs hvs
      obtain ⟨v, L', A, W, h1, h2, h3, h4, h5⟩ := evCall_ok (P := P) hTab hK
      obtain ⟨c, us, ho, hcal, hxs⟩ := comp1_call hc
      refine ⟨v, L', A, W, h1, h2, h3, h4, fun h φ w a hA hs hsim next Q hn => ?_⟩
      have hargs := evs_ok hs hxs (fun n h => h) hvs
      have hdo := h5 h φ w (c.args.map a.eval) hA (by simpa using hargs) hsim o a next Q fun v' w' ⟨φ', q1, q2⟩ => hn v' φ' w' q1 q2
      unfold Oper.wp
      have hf : a.eval (.func f) = .func (.func f) #[] #[] := rfl
      have he : (execOp a.eval o).run P w = (callFunc f (c.args.map a.eval)).run P w := by
        simp [execOp, ho, resolve, hcal, hf, Deferred.ofValue, invoke]
      rw [he]
      exact hdo
    · simp at hK
  · rename_i x xs
    split at hK
    · rename_i f caps vs hx hvs
      obtain ⟨v, L', A, W, h1, h2, h3, h4, h5⟩ := evCall_ok (P := P) hTab hK
      obtain ⟨c, X, ho, hcal, hX, hxs⟩ := comp1_callv hc
      refine ⟨v, L', A, W, h1, h2, h3, h4, fun h φ w a hA hs hsim next Q hn => ?_⟩
      have hargs := evs_ok hs hxs (fun n hn => by simp [slots] at hn ⊢; exact .inr hn) hvs
      obtain ⟨us, hf, hcaps⟩ := ev_ok hX hs (fun n hn => by simp [slots, hn]) hx
      have hdo := h5 h φ w (c.args.map a.eval ++ us.toArray) hA (by simpa using hargs.append (fold_caps hcaps)) hsim o a next Q fun v' w' ⟨φ', q1, q2⟩ => hn v' φ' w' q1 q2
      unfold Oper.wp
      have he : (execOp a.eval o).run P w = (callFunc f (c.args.map a.eval ++ us.toArray)).run P w := by
        simp [execOp, ho, resolve, hcal, hf, Deferred.ofValue, invoke]
      rw [he]
      exact hdo
    · simp at hK
  · exact evOp_ok hT hc hK
end
end Go.Eng
/- The engine, part 22: a run so far; regions in the order of the text. -/
namespace Go.Eng
section
variable {R : Type} {U : RowU R} {P : Program} {tagT : TypeId → Option Nat} {ρ : Type}

/-- A run that began at the heap W (in the world w0) and has come to h (in the world w). -/
structure Went (U : RowU R) (W : Heap R) (φ0 : Phi) (w0 : World) (h : Hp R) (φ : Phi) (w : World) : Prop where
  sim : Sim U φ h w
  ext : Ext U φ0 (hpL W) w0 φ h w
  os : w.os = w0.os
  tape : w.tape = w0.tape
  output : w.output = w0.output
  size : w0.heap.size ≤ w.heap.size
  ro : ∀ (b : Nat) x, W[b]? = some x → x.m ≠ 2 → h b = some x ∧ φ b = φ0 b
  own : ∀ (b : Nat) x a, h b = some x → x.m = 2 → φ b = some a → (∃ x0 a0, W[b]? = some x0 ∧ x0.m = 2 ∧ φ0 b = some a0 ∧ a0.block = a.block) ∨ w0.heap.size ≤ a.block
  blk : ∀ i, i < w0.heap.size → (∀ (b : Nat) x a, W[b]? = some x → x.m = 2 → φ0 b = some a → a.block ≠ i) → w.heap[i]? = w0.heap[i]?

theorem Went.refl {W : Heap R} {φ : Phi} {w : World} (h : Sim U φ (hpL W) w) : Went U W φ w (hpL W) φ w :=
  ⟨h, .refl, rfl, rfl, rfl, Nat.le_refl _, fun _ _ hx _ => ⟨hx, rfl⟩, fun _ x a hx hm ha => .inl ⟨x, a, hx, hm, ha, rfl⟩, fun _ _ _ => rfl⟩

theorem upd_eq {L L' : Heap R} {X : List Nat} (h : ∀ b : Nat, b ∉ X → L'[b]? = L[b]?) : upd (hpL L) L' X = hpL L' := by
  funext b
  unfold upd
  split
  · rfl
  · rename_i hb; exact (h b hb).symm

variable {W L L' : Heap R} {φ0 φ φ' : Phi} {w0 w w' : World}
theorem Went.step {X : List Nat} {h h' : Hp R} (g : Went U W φ0 w0 h φ w) (st : Stp U φ h w φ' h' w' X) (hX : ∀ b : Nat, b ∉ X → h' b = h b) : Went U W φ0 w0 h' φ' w' := by
  refine ⟨st.sim, g.ext.trans st.ext, st.kept.os.trans g.os, st.kept.tape.trans g.tape, st.kept.output.trans g.output, Nat.le_trans g.size st.kept.size, fun b x hx hm => ?_, fun b x a hx hm ha => ?_, fun i hi hno => ?_⟩
  · obtain ⟨h1, h2⟩ := g.ro b x hx hm
    have hb : b ∉ X := fun hb => by
      rcases st.own b hb with ⟨y, hy, hym⟩ | hn
      · rw [h1] at hy; simp at hy; subst hy; exact hm hym
      · rw [h1] at hn; simp at hn
    exact ⟨by rw [hX b hb, h1], by rw [st.phi b hb, h2]⟩
  · by_cases hb : b ∈ X
    · rcases st.new b hb a ha with ⟨y, a0, hy, hym, ha0, hab⟩ | hge
      · rcases g.own b y a0 hy hym ha0 with ⟨x0, a1, q1, q2, q3, q4⟩ | hge
        · exact .inl ⟨x0, a1, q1, q2, q3, q4.trans hab⟩
        · exact .inr (hab ▸ hge)
      · exact .inr (Nat.le_trans g.size hge)
    · rw [hX b hb] at hx
      rw [st.phi b hb] at ha
      exact g.own b x a hx hm ha
  · rw [st.kept.blk i (Nat.lt_of_lt_of_le hi g.size) fun b hb y a hy hym ha => ?_]
    · exact g.blk i hi hno
    · rcases g.own b y a hy hym ha with ⟨x0, a0, q1, q2, q3, q4⟩ | hge
      · rw [← q4]; exact hno b x0 a0 q1 q2 q3
      · omega

theorem RelF.get {h : Hp R} {fr : Fr} {tmps : Array Value} (hf : RelF U φ h w fr tmps) {t : Nat} {v : V} (hv : fr[t]? = some v) : ∃ u, tmps[t]? = some u ∧ RelV U φ h w v u := by
  obtain ⟨u, h1, h2⟩ := All2.get hf hv
  exact ⟨u, by simpa using h1, h2⟩
theorem RelF.sl {h : Hp R} {fr : Fr} {a : Act} (hf : RelF U φ h w fr a.tmps) (ts : List Nat) : Sl U φ h w fr a ts := fun t _ v hv => by
  obtain ⟨u, h1, h2⟩ := hf.get hv
  have : a.tmps.getD t undef = u := by
    obtain ⟨hl, he⟩ := Array.getElem?_eq_some_iff.1 h1
    simp [Array.getD, hl, he]
  rw [this]; exact h2
theorem RelF.put {h : Hp R} {fr : Fr} {a : Act} (hf : RelF U φ h w fr a.tmps) {v : V} {u : Value} (hv : RelV U φ h w v u) (d : Option Nat) : RelF U φ h w (setO fr d v) (a.put d u).tmps := by
  cases d with
  | none => exact hf
  | some d =>
    have := All2.set hf d hv
    unfold RelF
    simpa [setO, Act.put] using this
theorem set_same {fr : Fr} {t : Nat} {v : V} (h : fr[t]? = some v) : fr.set t v = fr := by
  apply List.ext_getElem?
  intro i
  rw [List.getElem?_set]
  split
  · rename_i e
    subst e
    rw [if_pos (List.getElem?_eq_some_iff.1 h).1, h]
  · rfl
theorem rel_undef {h : Hp R} : RelV U φ h w (.t []) undef := ⟨[], rfl, .nil⟩
theorem setO_len (fr : Fr) (d : Option Nat) (v : V) : (setO fr d v).length = fr.length := by cases d <;> simp [setO]

/-- A told operation is of its operation. -/
def SoOk (P : Program) (tagT : TypeId → Option Nat) (ops : Array Oper) (so : SO) (o : Oper) : Prop :=
  so.d = o.dst ∧ ((so.op = .stuck ∧ so.g = none) ∨ (so.op = .stuck ∨ comp1 P tagT o = some so.op) ∧ ((o.guard = none ∧ so.g = none) ∨ ∃ j w t, o.guard = some (j, w) ∧ so.g = some (t, w) ∧ (ops[j]?).bind (·.dst) = some t))
theorem compO_ok (ops : Array Oper) (bs : List Nat) (i : Nat) (o : Oper) : SoOk P tagT ops (compO P tagT ops bs i o) o := by
  unfold compO
  have hop : (comp1 P tagT o).getD .stuck = .stuck ∨ comp1 P tagT o = some ((comp1 P tagT o).getD .stuck) := by
    cases comp1 P tagT o with
    | none => exact .inl rfl
    | some x => exact .inr rfl
  split
  · rename_i hg
    exact ⟨rfl, .inr ⟨hop, .inl ⟨hg, rfl⟩⟩⟩
  · rename_i j w hg
    split
    · rename_i t ht
      exact ⟨rfl, .inr ⟨hop, .inr ⟨j, w, t, hg, rfl, ht⟩⟩⟩
    · exact ⟨rfl, .inl ⟨rfl, rfl⟩⟩
theorem compL_ok (ops : Array Oper) (bs : List Nat) : ∀ (os : List Oper) (i : Nat), All2 (SoOk P tagT ops) (compL P tagT ops bs i os) os
  | [], _ => .nil
  | o :: os, i => (compL_ok ops bs os (i + 1)).cons (compO_ok ops bs i o)

theorem evOpC_stuck {T : List (Nat × Callee R)} {fr : Fr} {K : KV R ρ} {r : ρ} (h : evOpC U T fr L .stuck K = some r) : False := by
  simp [evOpC, evOp] at h

/-- REGIONS IN THE ORDER OF THE TEXT. -/
theorem evOps_text (hT : TagOk P U tagT) {T : List (Nat × Callee R)} (hTab : TabOk P U T) {ops : Array Oper} : ∀ (sos : List SO) (os : List Oper) (i : Nat) (fr : Fr) (L : Heap R) (lg : Log) (K : Fr → Heap R → Option ρ) (r : ρ),
    All2 (SoOk P tagT ops) sos os → evOps U T false i sos fr L lg K = some r →
    ∃ fr' L', K fr' L' = some r ∧ fr'.length = fr.length ∧ ∀ (W : Heap R) (φ0 : Phi) (w0 : World) (φ : Phi) (w : World) (a : Act) (Q : Exit → Act → World → Prop), Went U W φ0 w0 (hpL L) φ w → RelF U φ (hpL L) w fr a.tmps →
      (∀ φ' w' a', a'.defers = a.defers → Went U W φ0 w0 (hpL L') φ' w' → RelF U φ' (hpL L') w' fr' a'.tmps → Q .normal a' w') → wpList P ops Q os a w := by
  intro sos
  induction sos with
  | nil =>
    intro os i fr L lg K r hso he
    obtain rfl := hso.inv_nil
    simp only [evOps] at he
    exact ⟨fr, L, he, rfl, fun W φ0 w0 φ w a Q hg hf hQ => hQ φ w a rfl hg hf⟩
  | cons so sos ih =>
    intro os i fr L lg K r hso he
    obtain ⟨o, os', rfl, ⟨hd, hop⟩, hrest⟩ := hso.inv_cons
    -- one operation that is done
    have one : ∀ (fr1 : Fr), fr1.length = fr.length → (so.op = .stuck ∨ comp1 P tagT o = some so.op) → evOpC U T fr1 L so.op (fun v L' A W => evOps U T false (i + 1) sos (setO fr1 so.d v) L' [] K) = some r →
        ∃ fr' L', K fr' L' = some r ∧ fr'.length = fr.length ∧ ∀ (W : Heap R) (φ0 : Phi) (w0 : World) (φ : Phi) (w : World) (a : Act) (Q : Exit → Act → World → Prop), Went U W φ0 w0 (hpL L) φ w → RelF U φ (hpL L) w fr1 a.tmps →
          (∀ φ' w' a', a'.defers = a.defers → Went U W φ0 w0 (hpL L') φ' w' → RelF U φ' (hpL L') w' fr' a'.tmps → Q .normal a' w') → o.wp P a w (wpList P ops Q os') Q := by
      intro fr1 hl1 hc h1
      have hc : comp1 P tagT o = some so.op := by
        rcases hc with hc | hc
        · rw [hc] at h1; exact (evOpC_stuck h1).elim
        · exact hc
      obtain ⟨v, L1, A, X, hk, _, hX, hlen, hdo⟩ := evOpC_ok hT hTab hc h1
      obtain ⟨fr', L', hk2, hl2, hgo⟩ := ih os' (i + 1) _ L1 [] K r hrest hk
      refine ⟨fr', L', hk2, by rw [hl2, setO_len, hl1], fun W φ0 w0 φ w a Q hg hf hQ => ?_⟩
      refine hdo (hpL L) φ w a (fun _ _ => rfl) (hf.sl _) hg.sim _ _ fun val φ' w' hv st => ?_
      rw [upd_eq hX] at hv st
      refine hgo W φ0 w0 φ' w' _ Q (hg.step st hX) ?_ fun φ2 w2 a2 hd2 hg2 hf2 => hQ φ2 w2 a2 ?_ hg2 hf2
      · rw [hd]; exact RelF.put (RelF.mono st.ext hf) hv _
      · rw [hd2]; cases o.dst <;> rfl
    have hskip : evOps U T false (i + 1) sos (setO fr so.d (.t [])) L lg K = some r →
        ∃ fr' L', K fr' L' = some r ∧ fr'.length = fr.length ∧ ∀ (W : Heap R) (φ0 : Phi) (w0 : World) (φ : Phi) (w : World) (a : Act) (Q : Exit → Act → World → Prop), Went U W φ0 w0 (hpL L) φ w → RelF U φ (hpL L) w fr a.tmps →
          (∀ φ' w' a', a'.defers = a.defers → Went U W φ0 w0 (hpL L') φ' w' → RelF U φ' (hpL L') w' fr' a'.tmps → Q .normal a' w') → wpList P ops Q os' (a.put o.dst undef) w := by
      intro h1
      obtain ⟨fr', L', hk2, hl2, hgo⟩ := ih os' (i + 1) _ L lg K r hrest h1
      refine ⟨fr', L', hk2, by rw [hl2, setO_len], fun W φ0 w0 φ w a Q hg hf hQ => ?_⟩
      refine hgo W φ0 w0 φ w _ Q hg (by rw [hd]; exact RelF.put hf rel_undef _) fun φ2 w2 a2 hd2 hg2 hf2 => hQ φ2 w2 a2 ?_ hg2 hf2
      rw [hd2]; cases o.dst <;> rfl
    simp only [evOps, Bool.false_eq_true, if_false] at he
    rcases hop with ⟨hst, hg0⟩ | ⟨hc, hguard⟩
    · exfalso
      rw [hst, hg0] at he
      exact evOpC_stuck he
    · rcases hguard with ⟨hg1, hg2⟩ | ⟨j, want, t, hg1, hg2, hdst⟩
      · rw [hg2] at he
        simp only at he
        obtain ⟨fr', L', h1, h2, h3⟩ := one fr rfl hc he
        refine ⟨fr', L', h1, h2, fun W φ0 w0 φ w a Q hg hf hQ => ?_⟩
        unfold wpList
        rw [if_pos (by simp [Region.wanted, hg1])]
        exact .inl (h3 W φ0 w0 φ w a Q hg hf hQ)
      · rw [hg2] at he
        simp only at he
        split at he
        · rename_i b hb
          rcases cond_some he with ⟨hbw, he⟩ | ⟨hbw, he⟩
          · have hbw : b = want := by simpa using hbw
            subst hbw
            rw [set_same hb] at he
            obtain ⟨fr', L', h1, h2, h3⟩ := one fr rfl hc he
            refine ⟨fr', L', h1, h2, fun W φ0 w0 φ w a Q hg hf hQ => ?_⟩
            obtain ⟨u, hu, hrel⟩ := RelF.get hf hb
            have : u = .bool b := hrel
            subst this
            unfold wpList
            rw [if_pos (by simp [Region.wanted, hg1, yielded, hdst, hu])]
            exact .inl (h3 W φ0 w0 φ w a Q hg hf hQ)
          · have hbw : b = !want := by cases b <;> cases want <;> simp_all
            rw [← hbw, set_same hb] at he
            obtain ⟨fr', L', h1, h2, h3⟩ := hskip he
            refine ⟨fr', L', h1, h2, fun W φ0 w0 φ w a Q hg hf hQ => ?_⟩
            obtain ⟨u, hu, hrel⟩ := RelF.get hf hb
            have : u = .bool b := hrel
            subst this
            unfold wpList
            rw [if_neg (by simp [Region.wanted, hg1, yielded, hdst, hu, hbw])]
            exact h3 W φ0 w0 φ w a Q hg hf hQ
        · rename_i hb
          obtain ⟨fr', L', h1, h2, h3⟩ := hskip he
          refine ⟨fr', L', h1, h2, fun W φ0 w0 φ w a Q hg hf hQ => ?_⟩
          obtain ⟨u, hu, us, hrel, hn⟩ := RelF.get hf hb
          obtain rfl := hn.inv_nil
          subst hrel
          unfold wpList
          rw [if_neg (by simp [Region.wanted, hg1, yielded, hdst, hu])]
          exact h3 W φ0 w0 φ w a Q hg hf hQ
        · simp at he
end
end Go.Eng
/- The engine, part 23: regions whose order is drawn. What each operation does in the order of the text; folds over those that have come up. -/
namespace Go.Eng
section
variable {R : Type} {U : RowU R} {P : Program} {tagT : TypeId → Option Nat} {ρ : Type}

/-- What one operation was told to do. -/
structure Rec (R : Type) where
  so : SO
  o : Oper
  fr : Fr
  L : Heap R
  v : V
  L' : Heap R
  A : List Nat
  W : List Nat

def StepOk (P : Program) (U : RowU R) (ops : Array Oper) (x : Rec R) : Prop :=
  (∀ b ∈ x.W, b ∈ x.A) ∧ (∀ b : Nat, b ∉ x.W → x.L'[b]? = x.L[b]?) ∧ x.so.d = x.o.dst ∧
  ∀ (h : Hp R) (φ : Phi) (w : World) (a : Act), (∀ b ∈ x.A, h b = x.L[b]?) → Sl U φ h w x.fr a (names x.so) → Sim U φ h w →
    ∀ (next : Act → World → Prop) (Q : Exit → Act → World → Prop), (∀ val φ' w', RelV U φ' (upd h x.L' x.W) w' x.v val → Stp U φ h w φ' (upd h x.L' x.W) w' x.W → next (a.put x.o.dst val) w') →
      if Region.wanted x.o (yielded ops a.tmps) then x.o.wp P a w next Q else next (a.put x.o.dst undef) w

def Chain (P : Program) (U : RowU R) (ops : Array Oper) : Fr → Heap R → List (Rec R) → Fr → Heap R → Prop
  | fr, L, [], fr', L' => fr' = fr ∧ L' = L
  | fr, L, x :: xs, fr', L' => x.fr = fr ∧ x.L = L ∧ StepOk P U ops x ∧ Chain P U ops (setO fr x.so.d x.v) x.L' xs fr' L'

def Clear : Log → Nat → List (Rec R) → Prop
  | _, _, [] => True
  | lg, i, x :: xs => (∀ p ∈ lg, (meets p.2.2 x.A || meets p.2.1 x.W) = true → x.so.bf.testBit p.1 = true) ∧ Clear ((i, x.A, x.W) :: lg) (i + 1) xs

theorem sl_val {φ : Phi} {h : Hp R} {w : World} {fr : Fr} {a : Act} {ts : List Nat} (hs : Sl U φ h w fr a ts) {t : Nat} (ht : t ∈ ts) {v : V} (hv : fr[t]? = some v) : RelV U φ h w v (a.tmps.getD t undef) := hs t ht v hv
theorem getD_bool {tmps : Array Value} {t : Nat} {b : Bool} (h : tmps.getD t undef = .bool b) : tmps[t]? = some (.bool b) := by
  by_cases hl : t < tmps.size
  · simp [Array.getD, hl] at h; simp [hl, h]
  · simp [Array.getD, hl, undef] at h
theorem getD_tup {tmps : Array Value} {t : Nat} {vs : Array Value} (h : tmps.getD t undef = .tuple vs) : tmps[t]? = none ∨ tmps[t]? = some (.tuple vs) := by
  by_cases hl : t < tmps.size
  · simp [Array.getD, hl] at h; simp [hl, h]
  · simp [hl]

theorem names_slots {so : SO} : ∀ t ∈ slots so.op, t ∈ names so := fun t ht => by simp [names, ht]
theorem names_guard {so : SO} {t : Nat} {b : Bool} (h : so.g = some (t, b)) : t ∈ names so := by simp [names, h]
theorem names_dst {so : SO} {t : Nat} (h : so.d = some t) : t ∈ names so := by simp [names, h]

theorem evOps_chain (hT : TagOk P U tagT) {T : List (Nat × Callee R)} (hTab : TabOk P U T) {ops : Array Oper} : ∀ (sos : List SO) (os : List Oper) (i : Nat) (fr : Fr) (L : Heap R) (lg : Log) (K : Fr → Heap R → Option ρ) (r : ρ),
    All2 (SoOk P tagT ops) sos os → evOps U T true i sos fr L lg K = some r →
    ∃ fr' L' xs, K fr' L' = some r ∧ xs.map (·.so) = sos ∧ xs.map (·.o) = os ∧ Chain P U ops fr L xs fr' L' ∧ Clear lg i xs := by
  intro sos
  induction sos with
  | nil =>
    intro os i fr L lg K r hso he
    obtain rfl := hso.inv_nil
    simp only [evOps] at he
    exact ⟨fr, L, [], he, rfl, rfl, ⟨rfl, rfl⟩, trivial⟩
  | cons so sos ih =>
    intro os i fr L lg K r hso he
    obtain ⟨o, os', rfl, ⟨hd, hop⟩, hrest⟩ := hso.inv_cons
    have one : (so.op = .stuck ∨ comp1 P tagT o = some so.op) → (∀ (φ : Phi) (h : Hp R) (w : World) (a : Act), Sl U φ h w fr a (names so) → Region.wanted o (yielded ops a.tmps) = true) →
        evOpC U T fr L so.op (fun v L' A W => if true = true then (if clash lg so.bf A W = true then none else evOps U T true (i + 1) sos (setO fr so.d v) L' ((i, A, W) :: lg) K) else evOps U T true (i + 1) sos (setO fr so.d v) L' [] K) = some r →
        ∃ fr' L' xs, K fr' L' = some r ∧ xs.map (·.so) = so :: sos ∧ xs.map (·.o) = o :: os' ∧ Chain P U ops fr L xs fr' L' ∧ Clear lg i xs := by
      intro hc hw h1
      have hc : comp1 P tagT o = some so.op := by
        rcases hc with hc | hc
        · rw [hc] at h1; exact (evOpC_stuck h1).elim
        · exact hc
      obtain ⟨v, L1, A, X, hk, hXA, hX, hlen, hdo⟩ := evOpC_ok hT hTab hc h1
      simp only [if_true] at hk
      split at hk
      · simp at hk
      · rename_i hcl
        obtain ⟨fr', L', xs, hk2, hs, hos, hch, hcr⟩ := ih os' (i + 1) _ L1 _ K r hrest hk
        refine ⟨fr', L', ⟨so, o, fr, L, v, L1, A, X⟩ :: xs, hk2, by simp [hs], by simp [hos], ⟨rfl, rfl, ⟨hXA, hX, hd, fun h φ w a hA hsl hsim next Q hn => ?_⟩, hch⟩, fun p hp hm => ?_, hcr⟩
        · rw [if_pos (hw φ h w a hsl)]
          exact hdo h φ w a hA (hsl.sub names_slots) hsim next Q hn
        · simp only [clash, List.any_eq_true, not_exists, not_and] at hcl
          have := hcl p hp
          simp only [hm, Bool.true_and] at this
          simpa using this
    have hskip : (∀ (φ : Phi) (h : Hp R) (w : World) (a : Act), Sl U φ h w fr a (names so) → Region.wanted o (yielded ops a.tmps) = false) → evOps U T true (i + 1) sos (setO fr so.d (.t [])) L lg K = some r →
        ∃ fr' L' xs, K fr' L' = some r ∧ xs.map (·.so) = so :: sos ∧ xs.map (·.o) = o :: os' ∧ Chain P U ops fr L xs fr' L' ∧ Clear lg i xs := by
      intro hw h1
      obtain ⟨fr', L', xs, hk2, hs, hos, hch, hcr⟩ := ih os' (i + 1) _ L lg K r hrest h1
      refine ⟨fr', L', ⟨so, o, fr, L, .t [], L, [], []⟩ :: xs, hk2, by simp [hs], by simp [hos], ⟨rfl, rfl, ⟨fun _ h => h, fun _ _ => rfl, hd, fun h φ w a hA hsl hsim next Q hn => ?_⟩, hch⟩, fun p hp hm => ?_, ?_⟩
      · rw [if_neg (by rw [hw φ h w a hsl]; simp)]
        simp only [upd_nil] at hn
        exact hn undef φ w rel_undef (.refl hsim)
      · simp [meets] at hm
      · clear hk2 hs hos hch h1
        have : ∀ (ys : List (Rec R)) (lg1 lg2 : Log) (k : Nat), (∀ p ∈ lg2, p ∈ lg1 ∨ p.2 = ([], [])) → Clear lg1 k ys → Clear lg2 k ys := by
          intro ys
          induction ys with
          | nil => intro _ _ _ _ _; trivial
          | cons y ys ihy =>
            intro lg1 lg2 k hsub hc
            refine ⟨fun p hp hm => ?_, ihy _ _ _ (fun p hp => ?_) hc.2⟩
            · rcases hsub p hp with h | h
              · exact hc.1 p h hm
              · simp [h, meets] at hm
            · rcases List.mem_cons.1 hp with rfl | hp
              · exact .inl (by simp)
              · exact (hsub p hp).imp (fun h => List.mem_cons_of_mem _ h) id
        exact this xs lg _ _ (fun p hp => by
          rcases List.mem_cons.1 hp with rfl | hp
          · exact .inr rfl
          · exact .inl hp) hcr
    simp only [evOps] at he
    rcases hop with ⟨hst, hg0⟩ | ⟨hc, hguard⟩
    · exfalso
      rw [hst, hg0] at he
      exact evOpC_stuck he
    · rcases hguard with ⟨hg1, hg2⟩ | ⟨j, want, t, hg1, hg2, hdst⟩
      · rw [hg2] at he
        simp only at he
        exact one hc (fun φ h w a _ => by simp [Region.wanted, hg1]) he
      · rw [hg2] at he
        simp only at he
        split at he
        · rename_i b hb
          rcases cond_some he with ⟨hbw, he⟩ | ⟨hbw, he⟩
          · have hbw : b = want := by simpa using hbw
            subst hbw
            rw [set_same hb] at he
            refine one hc (fun φ h w a hsl => ?_) he
            have hv : a.tmps.getD t undef = .bool b := sl_val hsl (names_guard hg2) hb
            simp [Region.wanted, hg1, yielded, hdst, getD_bool hv]
          · have hbw : b = !want := by cases b <;> cases want <;> simp_all
            rw [← hbw, set_same hb] at he
            refine hskip (fun φ h w a hsl => ?_) he
            have hv : a.tmps.getD t undef = .bool b := sl_val hsl (names_guard hg2) hb
            simp [Region.wanted, hg1, yielded, hdst, getD_bool hv, hbw]
        · rename_i hb
          refine hskip (fun φ h w a hsl => ?_) he
          obtain ⟨us, hv, _⟩ := sl_val hsl (names_guard hg2) hb
          rcases getD_tup hv with h | h <;> simp [Region.wanted, hg1, yielded, hdst, h]
        · simp at he

/-! ### folds over those that have come up -/
def frF (S : Nat → Bool) : Nat → List (Rec R) → Fr → Fr
  | _, [], fr => fr
  | i, x :: xs, fr => frF S (i + 1) xs (if S i then setO fr x.so.d x.v else fr)
def hpF (S : Nat → Bool) : Nat → List (Rec R) → Hp R → Hp R
  | _, [], h => h
  | i, x :: xs, h => hpF S (i + 1) xs (if S i then upd h x.L' x.W else h)

theorem frF_len (S : Nat → Bool) : ∀ (xs : List (Rec R)) (i : Nat) (fr : Fr), (frF S i xs fr).length = fr.length
  | [], _, _ => rfl
  | x :: xs, i, fr => by
    unfold frF
    rw [frF_len S xs]
    split
    · exact setO_len ..
    · rfl
theorem setO_get {fr : Fr} {d : Option Nat} {v : V} {t : Nat} (h : d ≠ some t) : (setO fr d v)[t]? = fr[t]? := by
  cases d with
  | none => rfl
  | some d => exact List.getElem?_set_ne fun e => h (by rw [e])
/-- Two choices that agree on who fills a slot leave the same in it. -/
theorem frF_agree {S S' : Nat → Bool} {t : Nat} : ∀ (xs : List (Rec R)) (i : Nat) (fr fr' : Fr), fr.length = fr'.length → fr[t]? = fr'[t]? → (∀ (k : Nat) x, xs[k]? = some x → x.so.d = some t → S (i + k) = S' (i + k)) → (frF S i xs fr)[t]? = (frF S' i xs fr')[t]?
  | [], _, _, _, _, h, _ => h
  | x :: xs, i, fr, fr', hl, h, hS => by
    unfold frF
    refine frF_agree xs (i + 1) _ _ ?_ ?_ fun k y hy hd => by have := hS (k + 1) y (by simpa using hy) hd; rwa [show i + (k + 1) = i + 1 + k by omega] at this
    · split <;> split <;> simp [setO_len, hl]
    · by_cases hd : x.so.d = some t
      · have h0 := hS 0 x (by simp) hd
        rw [Nat.add_zero] at h0
        rw [h0, hd]
        split
        · simp only [setO, List.getElem?_set]
          simp [hl]
        · exact h
      · split <;> split <;> simp only [setO_get hd, h]
theorem hpF_agree {S S' : Nat → Bool} {b : Nat} : ∀ (xs : List (Rec R)) (i : Nat) (h h' : Hp R), h b = h' b → (∀ (k : Nat) x, xs[k]? = some x → b ∈ x.W → S (i + k) = S' (i + k)) → hpF S i xs h b = hpF S' i xs h' b
  | [], _, _, _, h, _ => h
  | x :: xs, i, h, h', he, hS => by
    unfold hpF
    refine hpF_agree xs (i + 1) _ _ ?_ fun k y hy hd => by have := hS (k + 1) y (by simpa using hy) hd; rwa [show i + (k + 1) = i + 1 + k by omega] at this
    by_cases hd : b ∈ x.W
    · have h0 := hS 0 x (by simp) hd
      rw [Nat.add_zero] at h0
      rw [h0]
      split
      · simp [upd, hd]
      · exact he
    · split <;> split <;> simp [upd, hd, he]

/-- In the order of the text: what stood there before the k-th, and behind it. -/
theorem chain_at {ops : Array Oper} : ∀ (xs : List (Rec R)) (i : Nat) (fr : Fr) (L : Heap R) (fr' : Fr) (L' : Heap R), Chain P U ops fr L xs fr' L' → ∀ (k : Nat) x, xs[k]? = some x →
    StepOk P U ops x ∧ frF (fun j => decide (j < i + k)) i xs fr = x.fr ∧ hpF (fun j => decide (j < i + k)) i xs (hpL L) = hpL x.L ∧
    frF (fun j => decide (j < i + k + 1)) i xs fr = setO x.fr x.so.d x.v ∧ hpF (fun j => decide (j < i + k + 1)) i xs (hpL L) = hpL x.L'
  | [], _, _, _, _, _, _, k, x, hx => by simp at hx
  | y :: ys, i, fr, L, fr', L', hc, k, x, hx => by
    obtain ⟨h1, h2, h3, h4⟩ := hc
    have none_f : ∀ (ys : List (Rec R)) (n m : Nat) (fr : Fr), n ≤ m → frF (fun j => decide (j < n)) m ys fr = fr := by
      intro ys
      induction ys with
      | nil => intro n m fr _; rfl
      | cons z zs ih =>
        intro n m fr hle
        unfold frF
        rw [if_neg (by simp; omega)]
        exact ih n (m + 1) fr (by omega)
    have none_h : ∀ (ys : List (Rec R)) (n m : Nat) (h : Hp R), n ≤ m → hpF (fun j => decide (j < n)) m ys h = h := by
      intro ys
      induction ys with
      | nil => intro n m h _; rfl
      | cons z zs ih =>
        intro n m h hle
        unfold hpF
        rw [if_neg (by simp; omega)]
        exact ih n (m + 1) h (by omega)
    have hup : upd (hpL L) y.L' y.W = hpL y.L' := by rw [← h2]; exact upd_eq h3.2.1
    cases k with
    | zero =>
      simp at hx; subst hx
      rw [Nat.add_zero]
      refine ⟨h3, ?_, ?_, ?_, ?_⟩
      · rw [none_f _ _ _ _ (Nat.le_refl _), h1]
      · rw [none_h _ _ _ _ (Nat.le_refl _), h2]
      · unfold frF
        rw [if_pos (by simp), none_f _ _ _ _ (Nat.le_refl _), h1]
      · unfold hpF
        rw [if_pos (by simp), none_h _ _ _ _ (Nat.le_refl _), hup]
    | succ k =>
      obtain ⟨g1, g2, g3, g4, g5⟩ := chain_at ys (i + 1) _ y.L' fr' L' h4 k x (by simpa using hx)
      rw [show i + 1 + k = i + (k + 1) by omega] at g2 g3 g4 g5
      refine ⟨g1, ?_, ?_, ?_, ?_⟩
      · unfold frF; rw [if_pos (by simp)]; exact g2
      · unfold hpF; rw [if_pos (by simp), hup]; exact g3
      · unfold frF; rw [if_pos (by simp; omega)]; exact g4
      · unfold hpF; rw [if_pos (by simp; omega), hup]; exact g5
theorem chain_end {ops : Array Oper} {S : Nat → Bool} : ∀ (xs : List (Rec R)) (i : Nat) (fr : Fr) (L : Heap R) (fr' : Fr) (L' : Heap R), Chain P U ops fr L xs fr' L' → (∀ k, k < xs.length → S (i + k) = true) → frF S i xs fr = fr' ∧ hpF S i xs (hpL L) = hpL L'
  | [], _, _, _, _, _, hc, _ => by obtain ⟨rfl, rfl⟩ := hc; exact ⟨rfl, rfl⟩
  | y :: ys, i, fr, L, fr', L', hc, hS => by
    obtain ⟨h1, h2, h3, h4⟩ := hc
    have hup : upd (hpL L) y.L' y.W = hpL y.L' := by rw [← h2]; exact upd_eq h3.2.1
    have h0 := hS 0 (by simp)
    rw [Nat.add_zero] at h0
    unfold frF hpF
    rw [h0, if_pos rfl, if_pos rfl, hup]
    exact chain_end ys (i + 1) _ _ _ _ h4 fun k hk => by rw [show i + 1 + k = i + (k + 1) by omega]; exact hS (k + 1) (by simpa using hk)

theorem clear_at : ∀ (xs : List (Rec R)) (lg : Log) (i : Nat), Clear lg i xs → (∀ (k : Nat) x, xs[k]? = some x → ∀ p ∈ lg, (meets p.2.2 x.A || meets p.2.1 x.W) = true → x.so.bf.testBit p.1 = true) ∧
    ∀ (j k : Nat) x y, j < k → xs[j]? = some x → xs[k]? = some y → (meets x.W y.A || meets x.A y.W) = true → y.so.bf.testBit (i + j) = true
  | [], _, _, _ => ⟨fun k x hx => by simp at hx, fun j k x y _ hx => by simp at hx⟩
  | z :: zs, lg, i, hc => by
    obtain ⟨h1, h2⟩ := hc
    obtain ⟨g1, g2⟩ := clear_at zs _ (i + 1) h2
    refine ⟨fun k x hx p hp hm => ?_, fun j k x y hjk hx hy hm => ?_⟩
    · cases k with
      | zero => simp at hx; subst hx; exact h1 p hp hm
      | succ k => exact g1 k x (by simpa using hx) p (List.mem_cons_of_mem _ hp) hm
    · cases k with
      | zero => omega
      | succ k =>
        cases j with
        | zero =>
          simp at hx; subst hx
          exact g1 k y (by simpa using hy) (i, z.A, z.W) (by simp) hm
        | succ j =>
          have := g2 j k x y (by omega) (by simpa using hx) (by simpa using hy) hm
          rwa [show i + 1 + j = i + (j + 1) by omega] at this
theorem meets_iff {a b : List Nat} : meets a b = true ↔ ∃ x, x ∈ a ∧ x ∈ b := by simp [meets]
theorem slotsOk_at : ∀ (sos : List SO) (prev : List (Nat × SO)) (i : Nat), slotsOk prev i sos = true → (∀ (k : Nat) y, sos[k]? = some y → ∀ p ∈ prev, hits p.2 y = true → y.bf.testBit p.1 = true) ∧
    ∀ (j k : Nat) x y, j < k → sos[j]? = some x → sos[k]? = some y → hits x y = true → y.bf.testBit (i + j) = true
  | [], _, _, _ => ⟨fun k x hx => by simp at hx, fun j k x y _ hx => by simp at hx⟩
  | z :: zs, prev, i, hc => by
    simp only [slotsOk, Bool.and_eq_true, List.all_eq_true] at hc
    obtain ⟨h1, h2⟩ := hc
    obtain ⟨g1, g2⟩ := slotsOk_at zs _ (i + 1) h2
    refine ⟨fun k x hx p hp hm => ?_, fun j k x y hjk hx hy hm => ?_⟩
    · cases k with
      | zero => simp at hx; subst hx; have := h1 p hp; simpa [hm] using this
      | succ k => exact g1 k x (by simpa using hx) p (List.mem_cons_of_mem _ hp) hm
    · cases k with
      | zero => omega
      | succ k =>
        cases j with
        | zero =>
          simp at hx; subst hx
          exact g1 k y (by simpa using hy) (i, z) (by simp) hm
        | succ j =>
          have := g2 j k x y (by omega) (by simpa using hx) (by simpa using hy) hm
          rwa [show i + 1 + j = i + (j + 1) by omega] at this
end
end Go.Eng
/- The engine, part 24: regions whose order is drawn, in any order. -/
namespace Go.Eng
section
variable {R : Type} {U : RowU R} {P : Program} {tagT : TypeId → Option Nat} {ρ : Type}

theorem befE_bit (acc : List Nat) (o : Oper) {k : Nat} (h : (befE acc o).testBit k = true) : ∃ e ∈ o.after.toList, Region.binds .any e = true ∧ (k = e.on ∨ (acc.getD e.on 0).testBit k = true) := by
  have key : ∀ (l : List Edge) (s : Nat), (l.foldl (fun s e => if Region.binds .any e then s ||| 2 ^ e.on ||| acc.getD e.on 0 else s) s).testBit k = true → s.testBit k = true ∨ ∃ e ∈ l, Region.binds .any e = true ∧ (k = e.on ∨ (acc.getD e.on 0).testBit k = true) := by
    intro l
    induction l with
    | nil => intro s h; exact .inl h
    | cons e l ih =>
      intro s h
      simp only [List.foldl_cons] at h
      rcases ih _ h with h | ⟨e', h1, h2⟩
      · split at h
        · rename_i hb
          rw [Nat.testBit_or, Nat.testBit_or, Bool.or_eq_true, Bool.or_eq_true] at h
          rcases h with (h | h) | h
          · exact .inl h
          · rw [Nat.testBit_two_pow] at h
            exact .inr ⟨e, by simp, hb, .inl (by simpa using h : e.on = k).symm⟩
          · exact .inr ⟨e, by simp, hb, .inr h⟩
        · exact .inl h
      · exact .inr ⟨e', by simp [h1], h2⟩
  rcases key _ _ h with h | h
  · simp at h
  · exact h
theorem befL_pre : ∀ (os : List Oper) (acc : List Nat) (k : Nat), k < acc.length → (befL acc os)[k]? = acc[k]?
  | [], _, _, _ => rfl
  | o :: os, acc, k, hk => by
    unfold befL
    rw [befL_pre os _ k (by simp; omega), List.getElem?_append_left hk]
theorem befL_at : ∀ (os : List Oper) (acc : List Nat) (i : Nat) (o : Oper), os[i]? = some o → edgesOk acc.length os = true → ∀ k, ((befL acc os).getD (acc.length + i) 0).testBit k = true →
    ∃ e ∈ o.after.toList, Region.binds .any e = true ∧ e.on < acc.length + i ∧ (k = e.on ∨ ((befL acc os).getD e.on 0).testBit k = true)
  | [], _, i, _, h, _, _, _ => by simp at h
  | o' :: os, acc, i, o, h, he, k, hb => by
    simp only [edgesOk, Bool.and_eq_true, List.all_eq_true] at he
    obtain ⟨he1, he2⟩ := he
    cases i with
    | zero =>
      simp at h; subst h
      rw [Nat.add_zero] at hb ⊢
      have h1 : (befL acc (o' :: os)).getD acc.length 0 = befE acc o' := by
        unfold befL
        rw [List.getD_eq_getElem?_getD, befL_pre os _ _ (by simp)]
        simp
      rw [h1] at hb
      obtain ⟨e, p1, p2, p3⟩ := befE_bit acc o' hb
      have hlt : e.on < acc.length := by simpa [p2] using he1 e p1
      refine ⟨e, p1, p2, hlt, p3.imp id fun h => ?_⟩
      rw [List.getD_eq_getElem?_getD, befL_pre _ _ _ hlt, ← List.getD_eq_getElem?_getD]
      exact h
    | succ i =>
      have := befL_at os (acc ++ [befE acc o']) i o (by simpa using h) (by simpa using he2) k
      simp only [List.length_append, List.length_singleton] at this
      rw [show acc.length + 1 + i = acc.length + (i + 1) by omega] at this
      exact this hb
theorem edgesOk_at : ∀ (os : List Oper) (n i : Nat) (o : Oper), edgesOk n os = true → os[i]? = some o → ∀ e ∈ o.after.toList, Region.binds .any e = true → e.on < n + i
  | [], _, i, _, _, h => by simp at h
  | o' :: os, n, i, o, he, h => by
    simp only [edgesOk, Bool.and_eq_true, List.all_eq_true] at he
    cases i with
    | zero => simp at h; subst h; intro e h1 h2; simpa [h2] using he.1 e h1
    | succ i =>
      intro e h1 h2
      have := edgesOk_at os (n + 1) i o he.2 (by simpa using h) e h1 h2
      omega
theorem compO_bf (ops : Array Oper) (bs : List Nat) (i : Nat) (o : Oper) : (compO P tagT ops bs i o).bf = bs.getD i 0 := by
  unfold compO
  split
  · rfl
  · split <;> rfl
theorem compL_bf (ops : Array Oper) (bs : List Nat) : ∀ (os : List Oper) (i k : Nat) (so : SO), (compL P tagT ops bs i os)[k]? = some so → so.bf = bs.getD (i + k) 0
  | [], _, k, _, h => by simp [compL] at h
  | o :: os, i, k, so, h => by
    unfold compL at h
    cases k with
    | zero => simp at h; subst h; exact compO_bf ..
    | succ k => rw [show i + (k + 1) = i + 1 + k by omega]; exact compL_bf ops bs os (i + 1) k so (by simpa using h)

theorem ready_mem {ops : Array Oper} {listed : Array Bool} {i : Nat} : i ∈ Region.ready .any ops listed ↔ ∃ o, ops[i]? = some o ∧ listed.getD i true = false ∧ ∀ e ∈ o.after.toList, Region.binds .any e = true → listed.getD e.on false = true := by
  unfold Region.ready
  simp only [List.mem_filter, List.mem_range, Bool.and_eq_true, Bool.not_eq_true']
  constructor
  · rintro ⟨h1, h2, h3⟩
    refine ⟨ops[i], by simp [h1], h2, fun e he hb => ?_⟩
    simp [h1] at h3
    obtain ⟨j, hj, rfl⟩ := Array.getElem_of_mem (Array.mem_def.2 he)
    have := h3 j hj
    simpa [hb] using this
  · rintro ⟨o, h1, h2, h3⟩
    obtain ⟨hl, rfl⟩ := Array.getElem?_eq_some_iff.1 h1
    refine ⟨hl, h2, ?_⟩
    simp [hl]
    intro j hj
    have := h3 _ (Array.mem_def.1 (Array.getElem_mem hj))
    cases hb : Region.binds .any ops[i].after[j]
    · exact .inl rfl
    · exact .inr (by simpa using this hb)

theorem countP_lt {α : Type} {p q : α → Bool} : ∀ {l : List α}, (∀ x ∈ l, q x = true → p x = true) → (∃ x ∈ l, p x = true ∧ q x = false) → l.countP q < l.countP p
  | [], _, h => by obtain ⟨x, hx, _⟩ := h; simp at hx
  | x :: l, hs, h => by
    have hle : l.countP q ≤ l.countP p := List.countP_mono_left fun y hy => hs y (by simp [hy])
    have hx := hs x (by simp)
    simp only [List.countP_cons]
    obtain ⟨y, hy, h1, h2⟩ := h
    rcases List.mem_cons.1 hy with rfl | hy
    · simp [h1, h2]; omega
    · have := countP_lt (l := l) (fun z hz => hs z (by simp [hz])) ⟨y, hy, h1, h2⟩
      cases hq : q x
      · simp; omega
      · simp [hx hq]; omega

/-- ANY ORDER COMES TO WHAT THE ORDER OF THE TEXT COMES TO. -/
theorem any_ok {ops : Array Oper} {xs : List (Rec R)} {fr fr' : Fr} {L L' : Heap R} (hch : Chain P U ops fr L xs fr' L') (hxo : xs.map (·.o) = ops.toList) (hcl : Clear [] 0 xs) (hsl : slotsOk [] 0 (xs.map (·.so)) = true)
    (hbf : ∀ (i : Nat) x, xs[i]? = some x → ∀ k, x.so.bf.testBit k = true → ∃ e ∈ x.o.after.toList, Region.binds .any e = true ∧ (k = e.on ∨ ∃ y, xs[e.on]? = some y ∧ y.so.bf.testBit k = true))
    (hed : ∀ (i : Nat) x, xs[i]? = some x → ∀ e ∈ x.o.after.toList, Region.binds .any e = true → e.on < i)
    {W : Heap R} {φ0 : Phi} {w0 : World} {Q : Exit → Act → World → Prop} {D : List Deferred} (hQ : ∀ φ' w' a', a'.defers = D → Went U W φ0 w0 (hpL L') φ' w' → RelF U φ' (hpL L') w' fr' a'.tmps → Q .normal a' w') :
    ∀ (fuel : Nat) (listed : Array Bool) (φ : Phi) (w : World) (a : Act), listed.size = ops.size → (List.range ops.size).countP (fun i => !listed.getD i false) ≤ fuel →
      (∀ (i : Nat) x, xs[i]? = some x → listed.getD i false = true → ∀ j, x.so.bf.testBit j = true → listed.getD j false = true) → a.defers = D →
      Went U W φ0 w0 (hpF (fun i => listed.getD i false) 0 xs (hpL L)) φ w → RelF U φ (hpF (fun i => listed.getD i false) 0 xs (hpL L)) w (frF (fun i => listed.getD i false) 0 xs fr) a.tmps → wpAny P .any ops Q fuel listed a w := by
  have hlen : xs.length = ops.size := by have := congrArg List.length hxo; simpa using this
  have hops : ∀ (i : Nat) o, ops[i]? = some o → ∃ x, xs[i]? = some x ∧ x.o = o := fun i o ho => by
    have : (xs.map (·.o))[i]? = some o := by rw [hxo]; simpa using ho
    rw [List.getElem?_map] at this
    exact Option.map_eq_some_iff.1 this
  have hclear := (clear_at xs [] 0 hcl).2
  have hslots := (slotsOk_at _ [] 0 hsl).2
  have hdone : ∀ (listed : Array Bool), listed.size = ops.size → Region.ready .any ops listed = [] → ∀ i, i < ops.size → listed.getD i false = true := by
    intro listed hls hr i
    induction i using Nat.strongRecOn with
    | _ i ih =>
      intro hi
      cases hli : listed.getD i false with
      | true => rfl
      | false =>
        exfalso
        have hm : i ∈ Region.ready .any ops listed := by
          refine ready_mem.2 ⟨ops[i], by simp [hi], ?_, fun e he hb => ?_⟩
          · simp [Array.getD, hls, hi] at hli ⊢; exact hli
          · obtain ⟨x, hx, hxo'⟩ := hops i ops[i] (by simp [hi])
            have hlt := hed i x hx e (by rw [hxo']; exact he) hb
            exact ih e.on hlt (by omega)
        rw [hr] at hm; simp at hm
  have hfin : ∀ (listed : Array Bool) (φ : Phi) (w : World) (a : Act), (∀ i, i < ops.size → listed.getD i false = true) → a.defers = D →
      Went U W φ0 w0 (hpF (fun i => listed.getD i false) 0 xs (hpL L)) φ w → RelF U φ (hpF (fun i => listed.getD i false) 0 xs (hpL L)) w (frF (fun i => listed.getD i false) 0 xs fr) a.tmps → Q .normal a w := by
    intro listed φ w a hall hd hg hf
    obtain ⟨h1, h2⟩ := chain_end (S := fun i => listed.getD i false) xs 0 fr L fr' L' hch fun k hk => by rw [Nat.zero_add]; exact hall k (by omega)
    rw [h2] at hg hf
    rw [h1] at hf
    exact hQ φ w a hd hg hf
  intro fuel
  induction fuel with
  | zero =>
    intro listed φ w a hls hcount _ hd hg hf
    have hall : ∀ i, i < ops.size → listed.getD i false = true := by
      intro i hi
      have := List.countP_eq_zero.1 (Nat.le_zero.1 hcount) i (by simpa using hi)
      simpa using this
    refine ⟨?_, hfin listed φ w a hall hd hg hf⟩
    cases hr : Region.ready .any ops listed with
    | nil => rfl
    | cons i is =>
      exfalso
      obtain ⟨o, h1, h2, _⟩ := ready_mem.1 (show i ∈ Region.ready .any ops listed by rw [hr]; simp)
      have hi := (Array.getElem?_eq_some_iff.1 h1).1
      have := hall i hi
      simp [Array.getD, hls, hi] at this h2
      rw [this] at h2; simp at h2
  | succ fuel ih =>
    intro listed φ w a hls hcount hclosed hd hg hf
    refine ⟨fun hr => hfin listed φ w a (hdone listed hls hr) hd hg hf, fun i hi => ?_⟩
    obtain ⟨o, ho, hl1, hl2⟩ := ready_mem.1 hi
    have hisz := (Array.getElem?_eq_some_iff.1 ho).1
    have hl0 : listed.getD i false = false := by simp [Array.getD, hls, hisz] at hl1 ⊢; exact hl1
    obtain ⟨x, hx, rfl⟩ := hops i o ho
    obtain ⟨⟨sWA, sL, sd, sdo⟩, c1, c2, c3, c4⟩ := chain_at xs 0 fr L fr' L' hch i x hx
    rw [Nat.zero_add] at c1 c2 c3 c4
    -- what was before is listed; what is behind and touches the same is not
    have hpre : ∀ j, x.so.bf.testBit j = true → listed.getD j false = true := fun j hj => by
      obtain ⟨e, he, hb, h | ⟨y, hy, hyb⟩⟩ := hbf i x hx j hj
      · rw [h]; exact hl2 e he hb
      · exact hclosed e.on y hy (hl2 e he hb) j hyb
    have hpost : ∀ (j : Nat) y, xs[j]? = some y → y.so.bf.testBit i = true → listed.getD j false = false := fun j y hy hb => by
      cases hlj : listed.getD j false with
      | false => rfl
      | true => have := hclosed j y hy hlj i hb; rw [hl0] at this; simp at this
    have hW : ∀ b ∈ x.A, ∀ (k : Nat) y, xs[k]? = some y → b ∈ y.W → k ≠ i → listed.getD k false = decide (k < i) := by
      intro b hb k y hy hby hne
      rcases Nat.lt_or_ge k i with hlt | hge
      · have := hclear k i y x hlt hy hx (by rw [Bool.or_eq_true]; exact .inl (meets_iff.2 ⟨b, hby, hb⟩))
        rw [Nat.zero_add] at this
        rw [hpre k this]; simp [hlt]
      · have hgt : i < k := by omega
        have := hclear i k x y hgt hx hy (by rw [Bool.or_eq_true]; exact .inr (meets_iff.2 ⟨b, hb, hby⟩))
        rw [Nat.zero_add] at this
        rw [hpost k y hy this]; simp; omega
    have hD : ∀ t ∈ names x.so, ∀ (k : Nat) y, xs[k]? = some y → y.so.d = some t → k ≠ i → listed.getD k false = decide (k < i) := by
      intro t ht k y hy hdy hne
      have hm : ∀ (j : Nat) z, xs[j]? = some z → (xs.map (·.so))[j]? = some z.so := fun j z hz => by rw [List.getElem?_map, hz]; rfl
      rcases Nat.lt_or_ge k i with hlt | hge
      · have := hslots k i y.so x.so hlt (hm _ _ hy) (hm _ _ hx) (by simp [hits, hdy, ht])
        rw [Nat.zero_add] at this
        rw [hpre k this]; simp [hlt]
      · have hgt : i < k := by omega
        have := hslots i k x.so y.so hgt (hm _ _ hx) (hm _ _ hy) (by simp [hits, hdy, ht])
        rw [Nat.zero_add] at this
        rw [hpost k y hy this]; simp; omega
    have hA : ∀ b ∈ x.A, hpF (fun i => listed.getD i false) 0 xs (hpL L) b = x.L[b]? := by
      intro b hb
      rw [← show hpL x.L b = x.L[b]? from rfl, ← c2]
      refine hpF_agree xs 0 _ _ rfl fun k y hy hby => ?_
      rw [Nat.zero_add]
      by_cases e : k = i
      · subst e; rw [hl0]; simp
      · exact hW b hb k y hy hby e
    have hfr : ∀ t ∈ names x.so, (frF (fun i => listed.getD i false) 0 xs fr)[t]? = x.fr[t]? := by
      intro t ht
      rw [← c1]
      refine frF_agree xs 0 _ _ rfl rfl fun k y hy hdy => ?_
      rw [Nat.zero_add]
      by_cases e : k = i
      · subst e; rw [hl0]; simp
      · exact hD t ht k y hy hdy e
    -- behind it
    have hnew : ∀ k, (listed.setIfInBounds i true).getD k false = if k = i then true else listed.getD k false := fun k => by
      rw [Array.getD_eq_getD_getElem?, Array.getD_eq_getD_getElem?, Array.getElem?_setIfInBounds]
      by_cases e : i = k
      · subst e; simp [hls, hisz]
      · rw [if_neg e, if_neg (Ne.symm e)]
    have hh : hpF (fun k => (listed.setIfInBounds i true).getD k false) 0 xs (hpL L) = upd (hpF (fun i => listed.getD i false) 0 xs (hpL L)) x.L' x.W := by
      funext b
      unfold upd
      split
      · rename_i hb
        rw [← show hpL x.L' b = x.L'[b]? from rfl, ← c4]
        refine hpF_agree xs 0 _ _ rfl fun k y hy hby => ?_
        rw [Nat.zero_add, hnew]
        by_cases e : k = i
        · subst e; simp
        · rw [if_neg e, hW b (sWA b hb) k y hy hby e]
          simp; omega
      · rename_i hb
        refine hpF_agree xs 0 _ _ rfl fun k y hy hby => ?_
        rw [Nat.zero_add, hnew]
        by_cases e : k = i
        · subst e; rw [hx] at hy; simp at hy; subst hy; exact absurd hby hb
        · rw [if_neg e]
    have hff : frF (fun k => (listed.setIfInBounds i true).getD k false) 0 xs fr = setO (frF (fun i => listed.getD i false) 0 xs fr) x.so.d x.v := by
      apply List.ext_getElem?
      intro t
      by_cases ht : x.so.d = some t
      · have h1 : (frF (fun k => (listed.setIfInBounds i true).getD k false) 0 xs fr)[t]? = (setO x.fr x.so.d x.v)[t]? := by
          rw [← c3]
          refine frF_agree xs 0 _ _ rfl rfl fun k y hy hdy => ?_
          rw [Nat.zero_add, hnew]
          by_cases e : k = i
          · subst e; simp
          · rw [if_neg e, hD t (names_dst ht) k y hy hdy e]
            simp; omega
        rw [h1, ht]
        have hl2 : x.fr.length = (frF (fun i => listed.getD i false) 0 xs fr).length := by rw [frF_len, ← c1, frF_len]
        simp [setO, List.getElem?_set, hl2]
      · rw [setO_get ht]
        refine frF_agree xs 0 _ _ rfl rfl fun k y hy hdy => ?_
        rw [Nat.zero_add, hnew]
        by_cases e : k = i
        · subst e; rw [hx] at hy; simp at hy; subst hy; exact absurd hdy ht
        · rw [if_neg e]
    have hslx : Sl U φ (hpF (fun i => listed.getD i false) 0 xs (hpL L)) w x.fr a (names x.so) := fun t ht v hv => by
      have h1 := hfr t ht
      rw [hv] at h1
      exact hf.sl [t] t (by simp) v h1
    have hrun := sdo _ φ w a hA hslx hg.sim (wpAny P .any ops Q fuel (listed.setIfInBounds i true)) Q fun val φ' w' hv st => by
      refine ih (listed.setIfInBounds i true) φ' w' _ (by simpa using hls) ?_ ?_ ?_ ?_ ?_
      · have : (List.range ops.size).countP (fun k => !(listed.setIfInBounds i true).getD k false) < (List.range ops.size).countP (fun k => !listed.getD k false) := by
          refine countP_lt (fun k _ hk => ?_) ⟨i, by simpa using hisz, by rw [hl0]; rfl, by rw [hnew, if_pos rfl]; rfl⟩
          rw [hnew] at hk
          split at hk
          · simp at hk
          · exact hk
        omega
      · intro k y hy hk j hj
        rw [hnew] at hk ⊢
        by_cases ek : k = i
        · subst ek
          rw [hx] at hy; simp at hy; subst hy
          split
          · rfl
          · exact hpre j hj
        · rw [if_neg ek] at hk
          split
          · rfl
          · exact hclosed k y hy hk j hj
      · rw [← hd]; cases x.o.dst <;> rfl
      · rw [hh]; exact hg.step st fun b hb => by unfold upd; rw [if_neg hb]
      · rw [hh, hff, sd]
        exact RelF.put (RelF.mono st.ext hf) hv _
    unfold wpOp
    rw [ho]
    simp only
    split
    · rename_i hw
      rw [if_pos hw] at hrun
      exact .inl hrun
    · rename_i hw
      rw [if_neg hw] at hrun
      exact hrun
end
end Go.Eng
/- The engine, part 25: a heap that is put into order stands for the same world. -/
namespace Go.Eng
section
variable {R : Type} {U : RowU R} {P : Program} {tagT : TypeId → Option Nat} {ρ : Type}

theorem nodupN_ok : ∀ {xs : List Nat}, nodupN xs = true → xs.Nodup
  | [], _ => List.nodup_nil
  | x :: xs, h => by
    simp only [nodupN, Bool.and_eq_true, Bool.not_eq_true'] at h
    refine List.nodup_cons.2 ⟨fun hm => ?_, nodupN_ok h.2⟩
    have := h.1
    simp [hm] at this

/-- Which block stands here now. -/
def oldB (m0 : Nat) (fs : List Nat) (b : Nat) : Option Nat := if b < m0 then some b else fs[b - m0]?
def phO (m0 : Nat) (fs : List Nat) (φ : Phi) : Phi := fun b => (oldB m0 fs b).bind φ

theorem findN_mem {b : Nat} : ∀ {xs : List Nat} {i0 : Nat}, b ∈ xs → ∃ i, findN b i0 xs = some i
  | x :: xs, i0, h => by
    unfold findN
    split
    · exact ⟨i0, rfl⟩
    · rename_i hne
      rcases List.mem_cons.1 h with e | h
      · exact absurd e.symm hne
      · exact findN_mem h
  | [], _, h => by simp at h

structure Ordered (U : RowU R) (m0 : Nat) (fs : List Nat) (L L' : Heap R) : Prop where
  le : m0 ≤ L.length
  nodup : fs.Nodup
  mem : ∀ b ∈ fs, m0 ≤ b ∧ b < L.length
  ro : ∀ (b : Nat) x, b < m0 → L[b]? = some x → x.m ≠ 2 → belowK m0 x.k = true
  old : ∀ (b : Nat) x, b < m0 → L[b]? = some x → L'[b]? = some (if x.m = 2 then ⟨ordK m0 fs L x.k, x.g, x.m⟩ else x)
  new : ∀ (j b : Nat) x, fs[j]? = some b → L[b]? = some x → L'[m0 + j]? = some ⟨ordK m0 fs L x.k, 0, x.m⟩
  all : ∀ (b : Nat) y, L'[b]? = some y → ∃ b0 x, oldB m0 fs b = some b0 ∧ L[b0]? = some x

variable {m0 : Nat} {fs : List Nat} {L L' : Heap R} {φ φ0 : Phi} {w w0 : World}

theorem ordB_some (O : Ordered U m0 fs L L') {b b' : Nat} (h : ordB m0 fs b = some b') : oldB m0 fs b' = some b ∧ (b < m0 ↔ b' < m0) ∧ (b < m0 → b' = b) := by
  unfold ordB at h
  split at h
  · rename_i hb
    simp at h; subst h
    exact ⟨by simp [oldB, hb], Iff.rfl, fun _ => rfl⟩
  · rename_i hb
    obtain ⟨h1, h2⟩ := findN_some h
    exact ⟨by unfold oldB; rw [if_neg (by omega)]; exact h2, ⟨fun h => absurd h hb, fun h => by omega⟩, fun h => absurd h hb⟩

/-- The block that b has become. -/
theorem ord_blk (O : Ordered U m0 fs L L') {b b' : Nat} (h : ordB m0 fs b = some b') {x : Blk R} (hx : L[b]? = some x) : L'[b']? = some (if b < m0 ∧ x.m ≠ 2 then x else ⟨ordK m0 fs L x.k, if b < m0 then x.g else 0, x.m⟩) ∧ phO m0 fs φ b' = φ b := by
  obtain ⟨h1, h2, h3⟩ := ordB_some O h
  refine ⟨?_, by simp [phO, h1]⟩
  by_cases hb : b < m0
  · rw [h3 hb, O.old b x hb hx]
    by_cases hm : x.m = 2
    · simp [hb, hm]
    · simp [hb, hm]
  · have hb' : ¬ b' < m0 := fun e => hb (h2.2 e)
    unfold oldB at h1
    rw [if_neg hb'] at h1
    have := O.new (b' - m0) b x h1 hx
    rw [show m0 + (b' - m0) = b' by omega] at this
    rw [this]
    simp [hb]
theorem ord_row (O : Ordered U m0 fs L L') {b b' g m : Nat} {r : R} (h : ordB m0 fs b = some b') (hx : L[b]? = some ⟨.row r, g, m⟩) : L'[b']? = some ⟨.row r, if b < m0 then g else 0, m⟩ := by
  rw [(ord_blk (φ := fun _ => none) O h hx).1]
  split
  · rename_i hc; simp [hc.1]
  · rfl
theorem ord_box (O : Ordered U m0 fs L L') {b b' g m : Nat} {cs : List C} (h : ordB m0 fs b = some b') (hx : L[b]? = some ⟨.box cs, g, m⟩) : ∃ cs' g', L'[b']? = some ⟨.box cs', g', m⟩ := by
  rw [(ord_blk (φ := fun _ => none) O h hx).1]
  split
  · exact ⟨_, _, rfl⟩
  · exact ⟨_, _, rfl⟩

theorem ordC_ok (O : Ordered U m0 fs L L') {c : C} {v : Value} (hr : RelC U φ (hpL L) w c v) : RelC U (phO m0 fs φ) (hpL L') w (ordC m0 fs L c) v := by
  have one := RelC.one U hr
  cases c <;> simp only [ordC]
  case sl b g =>
    split
    · rename_i b' hlv ho
      obtain ⟨r, m, hb, hm⟩ := liveG_some hlv
      refine ⟨one, _, ord_row O ho hb, Nat.le_refl _, fun _ _ r' hr' => ?_⟩
      simp at hr'; subst hr'
      exact (rel_sl hr hb hm).move (ord_blk (φ := φ) O ho hb).2
    · exact one
  case sc b g lo n =>
    split
    · rename_i b' hlv ho
      obtain ⟨r, m, hb, hm⟩ := liveG_some hlv
      refine ⟨one, _, ord_row O ho hb, Nat.le_refl _, fun _ _ r' hr' => ?_⟩
      simp at hr'; subst hr'
      exact (rel_sc hr hb hm).move (ord_blk (φ := φ) O ho hb).2
    · exact one
  case sf b g lo n =>
    split
    · rename_i b' hlv ho
      obtain ⟨r, m, hb, hm⟩ := liveG_some hlv
      refine ⟨one, _, ord_row O ho hb, Nat.le_refl _, fun _ _ r' hr' => ?_⟩
      simp at hr'; subst hr'
      obtain ⟨q0, A, rfl, q1⟩ := rel_sf (w := w) hr hb hm
      exact ⟨q0, A, rfl, q1.imp id fun ⟨a, ha, hA⟩ => ⟨a, (ord_blk (φ := φ) O ho hb).2.trans ha, hA⟩⟩
    · exact one
  case pr b g i o =>
    split
    · rename_i b' hlv ho
      obtain ⟨r, m, hb, hm⟩ := liveG_some hlv
      refine ⟨one, _, ord_row O ho hb, Nat.le_refl _, fun _ _ r' hr' => ?_⟩
      simp at hr'; subst hr'
      obtain ⟨q0, a, ha, hv⟩ := rel_pr (w := w) hr hb hm
      exact ⟨q0, a, (ord_blk (φ := φ) O ho hb).2.trans ha, hv⟩
    · exact one
  case ptr b off =>
    split
    · rename_i b' hlv ho
      obtain ⟨cs, g, m, hb, hm, a, ha, rfl⟩ := hr
      replace hb : L[b]? = some ⟨.box cs, g, m⟩ := hb
      obtain ⟨cs', g', h1⟩ := ord_box O ho hb
      exact ⟨cs', g', m, h1, hm, a, (ord_blk (φ := φ) O ho hb).2.trans ha, rfl⟩
    · exact one
  case sb b n =>
    split
    · rename_i b' hlv ho
      obtain ⟨ad, ⟨cs, g, m, hb, hm, a, ha, hv⟩, rfl⟩ := hr
      replace hb : L[b]? = some ⟨.box cs, g, m⟩ := hb
      obtain ⟨cs', g', h1⟩ := ord_box O ho hb
      exact ⟨ad, ⟨cs', g', m, h1, hm, a, (ord_blk (φ := φ) O ho hb).2.trans ha, hv⟩, rfl⟩
    · exact one
  case fn f caps =>
    split
    · rename_i bs hf
      obtain ⟨vs, rfl, ha⟩ := hr
      refine ⟨vs, rfl, ?_⟩
      clear one
      induction caps generalizing bs vs with
      | nil => simp at hf; subst hf; rw [ha.inv_nil]; exact .nil
      | cons b caps ih =>
        obtain ⟨u, us, rfl, hp, hrest⟩ := ha.inv_cons
        simp only [List.foldr_cons] at hf
        split at hf
        · rename_i b' bs' ho hfr
          simp at hf; subst hf
          refine (ih bs' hfr us hrest).cons ?_
          obtain ⟨cs, g, m, hb, hm, a, had, rfl⟩ := hp
          replace hb : L[b]? = some ⟨.box cs, g, m⟩ := hb
          obtain ⟨cs', g', h1⟩ := ord_box O ho hb
          exact ⟨cs', g', m, h1, hm, a, (ord_blk (φ := φ) O ho hb).2.trans had, rfl⟩
        · simp at hf
    · exact one
  all_goals exact hr

/-- Cells that name the first blocks alone mean what they meant. -/
theorem below_ok (O : Ordered U m0 fs L L') {c : C} {v : Value} (hb : below m0 c = true) (hr : RelC U φ (hpL L) w c v) : RelC U (phO m0 fs φ) (hpL L') w c v := by
  have hex : Ext U φ (fun b => if b < m0 then hpL L b else none) w (phO m0 fs φ) (hpL L') w := by
    intro b x hx
    replace hx : (if b < m0 then hpL L b else none) = some x := hx
    split at hx
    · rename_i hlt
      replace hx : L[b]? = some x := hx
      have h1 := O.old b x hlt hx
      have hφ : phO m0 fs φ b = φ b := by simp [phO, oldB, hlt]
      by_cases hm : x.m = 2
      · rw [if_pos hm] at h1
        have hd : HdrOk U w w φ (phO m0 fs φ) b x ⟨ordK m0 fs L x.k, x.g, x.m⟩ := ⟨rfl, hφ, fun r hr => by
          cases hk : x.k with
          | row r' => simp [ordK, hk] at hr; subst hr; exact ⟨r', rfl, rfl, rfl⟩
          | box cs => simp [ordK, hk] at hr, fun cs hc => by
          cases hk : x.k with
          | row r' => simp [ordK, hk] at hc
          | box cs => exact ⟨cs, rfl⟩, fun a _ cs t fr hc => ⟨cs, t, fr, hc, Nat.le_refl _⟩⟩
        exact ⟨_, h1, Nat.le_refl _, fun _ cs hc => ⟨⟨cs.map (ordC m0 fs L), by simp [ordK, hc]⟩, hd⟩, fun _ _ => hd⟩
      · rw [if_neg hm] at h1
        have hd : HdrOk U w w φ (phO m0 fs φ) b x x := ⟨rfl, hφ, fun r hr => ⟨r, hr, rfl, rfl⟩, fun cs hc => ⟨cs, hc⟩, fun a _ cs t fr hc => ⟨cs, t, fr, hc, Nat.le_refl _⟩⟩
        exact ⟨x, h1, Nat.le_refl _, fun _ cs hc => ⟨⟨cs, hc⟩, hd⟩, fun _ _ => hd⟩
    · simp at hx
  refine RelC.mono hex ?_
  cases c <;> simp only [below, decide_eq_true_eq, List.all_eq_true] at hb
  case sl b g => obtain ⟨h1, blk, h2, h3⟩ := hr; exact ⟨h1, blk, by simp only [hb, if_true]; exact h2, h3⟩
  case sc b g lo n => obtain ⟨h1, blk, h2, h3⟩ := hr; exact ⟨h1, blk, by simp only [hb, if_true]; exact h2, h3⟩
  case sf b g lo n => obtain ⟨h1, blk, h2, h3⟩ := hr; exact ⟨h1, blk, by simp only [hb, if_true]; exact h2, h3⟩
  case pr b g i o => obtain ⟨h1, blk, h2, h3⟩ := hr; exact ⟨h1, blk, by simp only [hb, if_true]; exact h2, h3⟩
  case ptr b off =>
    obtain ⟨cs, g, m, h1, h2⟩ := hr
    exact ⟨cs, g, m, by simp only [hb, if_true]; exact h1, h2⟩
  case sb b n =>
    obtain ⟨ad, ⟨cs, g, m, h1, h2⟩, rfl⟩ := hr
    exact ⟨ad, ⟨cs, g, m, by simp only [hb, if_true]; exact h1, h2⟩, rfl⟩
  case fn f caps =>
    obtain ⟨vs, rfl, ha⟩ := hr
    refine ⟨vs, rfl, ha.1, fun i b v hb' hv => ?_⟩
    obtain ⟨cs, g, m, h1, h2⟩ := ha.2 i b v hb' hv
    exact ⟨cs, g, m, by simp only [hb b (List.mem_of_getElem? hb'), if_true]; exact h1, h2⟩
  all_goals exact hr

/-- ... and so the run has come to it. -/
theorem ord_went (O : Ordered U m0 fs L L') {W : Heap R} (hW : W.length = m0) (g : Went U W φ0 w0 (hpL L) φ w) : Went U W φ0 w0 (hpL L') (phO m0 fs φ) w := by
  -- a block of the new heap and what it was
  have back : ∀ {b : Nat} {y : Blk R}, L'[b]? = some y → ∃ b0 x, oldB m0 fs b = some b0 ∧ L[b0]? = some x ∧ y.m = x.m ∧ (b < m0 → b0 = b) ∧ (m0 ≤ b → m0 ≤ b0) ∧ (y = x ∧ b < m0 ∧ x.m ≠ 2 ∨ y = ⟨ordK m0 fs L x.k, if b < m0 then x.g else 0, x.m⟩) := by
    intro b y hy
    obtain ⟨b0, x, h1, h2⟩ := O.all b y hy
    refine ⟨b0, x, h1, h2, ?_⟩
    unfold oldB at h1
    split at h1
    · rename_i hb
      simp at h1; subst h1
      have := O.old b x hb h2
      rw [hy] at this; simp at this
      by_cases hm : x.m = 2
      · rw [if_pos hm] at this; subst this
        exact ⟨rfl, fun _ => rfl, fun h => h, .inr (by simp [hb])⟩
      · rw [if_neg hm] at this; subst this
        exact ⟨rfl, fun _ => rfl, fun h => h, .inl ⟨rfl, hb, hm⟩⟩
    · rename_i hb
      have := O.new (b - m0) b0 x h1 h2
      rw [show m0 + (b - m0) = b by omega, hy] at this
      simp at this; subst this
      exact ⟨rfl, fun h => absurd h hb, fun _ => (O.mem b0 (List.mem_of_getElem? h1)).1, .inr (by simp [hb])⟩
  have hφ : ∀ {b b0 : Nat}, oldB m0 fs b = some b0 → phO m0 fs φ b = φ b0 := fun h => by simp [phO, h]
  have inj : ∀ {b b' b0 : Nat}, oldB m0 fs b = some b0 → oldB m0 fs b' = some b0 → b = b' := by
    intro b b' b0 h1 h2
    unfold oldB at h1 h2
    split at h1 <;> split at h2
    · simp at h1 h2; omega
    · rename_i q1 q2
      simp at h1; subst h1
      have := (O.mem b (List.mem_of_getElem? h2)).1
      omega
    · rename_i q1 q2
      simp at h2; subst h2
      have := (O.mem b' (List.mem_of_getElem? h1)).1
      omega
    · rename_i q1 q2
      obtain ⟨p1, p2⟩ := List.getElem?_eq_some_iff.1 h1
      obtain ⟨r1, r2⟩ := List.getElem?_eq_some_iff.1 h2
      have hp := List.pairwise_iff_getElem.1 O.nodup
      rcases Nat.lt_trichotomy (b - m0) (b' - m0) with hlt | heq | hlt
      · exact absurd (p2.trans r2.symm) (hp _ _ p1 r1 hlt)
      · omega
      · exact absurd (r2.trans p2.symm) (hp _ _ r1 p1 hlt)
  refine ⟨⟨fun b y a hy hm ha => ?_, fun b y hy => ?_, fun b b' y y' a a' hne hy hy' hm hm' ha ha' => ?_⟩, ?_, g.os, g.tape, g.output, g.size, fun b x hx hm => ?_, fun b y a hy hm ha => ?_, g.blk⟩
  · obtain ⟨b0, x, h1, h2, h3, _⟩ := back hy
    rw [hφ h1] at ha
    exact g.sim.lt b0 x a h2 (h3 ▸ hm) ha
  · obtain ⟨b0, x, h1, h2, h3, h4, _, h5⟩ := back hy
    have hb0 := g.sim.blk b0 x h2
    unfold BlkOk at hb0 ⊢
    by_cases hm0 : x.m = 0
    · rw [if_pos (h3.trans hm0)]; trivial
    · rw [if_neg hm0] at hb0
      rw [if_neg (h3 ▸ hm0)]
      by_cases hm2 : x.m = 2
      · rw [if_pos hm2] at hb0
        rw [if_pos (h3.trans hm2)]
        rcases h5 with ⟨_, _, h6⟩ | rfl
        · exact absurd hm2 h6
        · rcases hb0 with ⟨r, hk, hl, hp⟩ | ⟨a, ha, hsp, cs, t, lo, hi, hc, hf, hcells⟩
          · exact .inl ⟨r, by simp [ordK, hk], hl, (hφ h1).trans hp⟩
          · refine .inr ⟨a, (hφ h1).trans ha, hsp, cs, t, lo, hi, hc, hf, fun i c hi => ?_⟩
            cases hk : x.k with
            | row r =>
              simp only [hk, ordK] at hi
              obtain ⟨v, hv, hr⟩ := hcells i c (by rw [hk]; exact hi)
              exact ⟨v, hv, hr.plain U (flat_plain hi)⟩
            | box ds =>
              simp only [hk, ordK, flat, List.getElem?_map] at hi
              obtain ⟨c0, hc0, rfl⟩ := Option.map_eq_some_iff.1 hi
              obtain ⟨v, hv, hr⟩ := hcells i c0 (by rw [hk]; exact hc0)
              exact ⟨v, hv, ordC_ok O hr⟩
      · rw [if_neg hm2] at hb0
        rw [if_neg (h3 ▸ hm2)]
        rcases h5 with ⟨rfl, hlt, _⟩ | rfl
        · have hbb := h4 hlt
          subst hbb
          rcases hb0 with hb0 | ⟨a, ha, hcells⟩
          · exact .inl hb0
          · refine .inr ⟨a, (hφ h1).trans ha, fun i c hi => ?_⟩
            obtain ⟨v, hv, hr⟩ := hcells i c hi
            refine ⟨v, hv, ?_⟩
            cases hk : y.k with
            | row r => rw [hk] at hi; exact hr.plain U (flat_plain hi)
            | box ds =>
              have hbl := O.ro b0 y hlt h2 hm2
              rw [hk] at hi hbl
              simp only [belowK, List.all_eq_true] at hbl
              exact below_ok O (hbl c (List.mem_of_getElem? hi)) hr
        · rcases hb0 with ⟨p1, p2⟩ | ⟨a, ha, hcells⟩
          · refine .inl ⟨?_, fun cs hcs => ?_⟩
            · cases hk : x.k with
              | row r => simpa [ordK, hk] using p1
              | box ds => exact absurd hk (p2 ds)
            · cases hk : x.k with
              | row r => simp [ordK, hk] at hcs
              | box ds => exact absurd hk (p2 ds)
          · refine .inr ⟨a, (hφ h1).trans ha, fun i c hi => ?_⟩
            cases hk : x.k with
            | row r =>
              simp only [hk, ordK] at hi
              obtain ⟨v, hv, hr⟩ := hcells i c (by rw [hk]; exact hi)
              exact ⟨v, hv, hr.plain U (flat_plain hi)⟩
            | box ds =>
              simp only [hk, ordK, flat, List.getElem?_map] at hi
              obtain ⟨c0, hc0, rfl⟩ := Option.map_eq_some_iff.1 hi
              obtain ⟨v, hv, hr⟩ := hcells i c0 (by rw [hk]; exact hc0)
              exact ⟨v, hv, ordC_ok O hr⟩
  · obtain ⟨b0, x, h1, h2, h3, _⟩ := back hy
    obtain ⟨b1, x', h1', h2', h3', _⟩ := back hy'
    rw [hφ h1] at ha
    rw [hφ h1'] at ha'
    exact g.sim.apart b0 b1 x x' a a' (fun e => hne (inj h1 (e ▸ h1'))) h2 h2' (h3 ▸ hm) (h3' ▸ hm') ha ha'
  · intro b x hx
    obtain ⟨y, hy, e1, e2, e3⟩ := g.ext b x hx
    replace hy : L[b]? = some y := hy
    replace hx : W[b]? = some x := hx
    have hlt : b < m0 := by rw [← hW]; exact (List.getElem?_eq_some_iff.1 hx).1
    have h1 := O.old b y hlt hy
    have hph : phO m0 fs φ b = φ b := by simp [phO, oldB, hlt]
    have hdd : ∀ {z : Blk R}, HdrOk U w0 w φ0 φ b x y → z = (if y.m = 2 then ⟨ordK m0 fs L y.k, y.g, y.m⟩ else y) → HdrOk U w0 w φ0 (phO m0 fs φ) b x z := by
      rintro z hd rfl
      split
      · exact ⟨hd.mode, hph.trans hd.phi, fun r hr => by
          cases hk : y.k with
          | row r' => simp [ordK, hk] at hr; subst hr; exact hd.row r' hk
          | box cs => simp [ordK, hk] at hr, fun cs hc => by
          cases hk : y.k with
          | row r' => simp [ordK, hk] at hc
          | box cs => exact hd.box cs hk, hd.size⟩
      · exact ⟨hd.mode, hph.trans hd.phi, hd.row, hd.box, hd.size⟩
    refine ⟨_, h1, ?_, fun hm cs hc => ?_, fun hm eg => ?_⟩
    · split <;> exact e1
    · obtain ⟨⟨cs', hk⟩, hd⟩ := e2 hm cs hc
      refine ⟨?_, hdd hd rfl⟩
      split
      · exact ⟨cs'.map (ordC m0 fs L), by simp [ordK, hk]⟩
      · exact ⟨cs', hk⟩
    · refine hdd (e3 ?_ ?_) rfl
      · split at hm <;> exact hm
      · split at eg <;> exact eg
  · obtain ⟨h1, h2⟩ := g.ro b x hx hm
    have hlt : b < m0 := by rw [← hW]; exact (List.getElem?_eq_some_iff.1 hx).1
    have := O.old b x hlt h1
    rw [if_neg hm] at this
    exact ⟨this, by simp [phO, oldB, hlt, h2]⟩
  · obtain ⟨b0, x, h1, h2, h3, h4, h5, _⟩ := back hy
    rw [hφ h1] at ha
    rcases g.own b0 x a h2 (h3 ▸ hm) ha with ⟨x0, a0, q1, q2⟩ | hge
    · have hlt : b0 < m0 := by rw [← hW]; exact (List.getElem?_eq_some_iff.1 q1).1
      have hb : b < m0 := by
        rcases Nat.lt_or_ge b m0 with h | h
        · exact h
        · have := h5 h; omega
      have := h4 hb
      subst this
      exact .inl ⟨x0, a0, q1, q2⟩
    · exact .inr hge
end
end Go.Eng
/- The engine, part 25n: nil slices and cuts, put right. -/
namespace Go.Eng
section
variable {R : Type} {U : RowU R}
variable {L L' : Heap R} {φ φ0 : Phi} {w w0 : World} {W : Heap R}

/-- The same run, told of another heap; what was said of cells is still so. -/
def Norm (U : RowU R) (W : Heap R) (φ0 : Phi) (w0 : World) (L L' : Heap R) (w : World) (φ : Phi) (φ' : Phi) : Prop :=
  Went U W φ0 w0 (hpL L') φ' w ∧ Ext U φ (hpL L) w φ' (hpL L') w
theorem hp_app (L : Heap R) (x : Blk R) : hpL (L ++ [x]) = hpSet (hpL L) L.length x := by
  funext b
  unfold hpSet
  by_cases hb : b = L.length
  · subst hb; simp
  · simp only [hb, if_false]
    show (L ++ [x])[b]? = L[b]?
    rcases Nat.lt_or_ge b L.length with h | h
    · rw [List.getElem?_append_left h]
    · rw [List.getElem?_eq_none h, List.getElem?_eq_none (by simp; omega)]
theorem hp_set (L : Heap R) (b : Nat) (x : Blk R) (hb : b < L.length) : hpL (L.set b x) = hpSet (hpL L) b x := by
  funext b'
  unfold hpSet
  by_cases e : b' = b
  · subst e; simp [hb]
  · simp only [e, if_false]
    show (L.set b x)[b']? = L[b']?
    rw [List.getElem?_set_ne (fun h => e h.symm)]
theorem Went.stp {X : List Nat} {h h' : Hp R} {φ' : Phi} (g : Went U W φ0 w0 h φ w) (st : Stp U φ h w φ' h' w X) (hX : ∀ b : Nat, b ∉ X → h' b = h b) : Went U W φ0 w0 h' φ' w := g.step st hX

theorem normC_ok {rf : List Nat} {c c' : C} (h : normC U rf L c = (c', L')) (g : Went U W φ0 w0 (hpL L) φ w) :
    ∃ φ', Went U W φ0 w0 (hpL L') φ' w ∧ Ext U φ (hpL L) w φ' (hpL L') w ∧ ∀ v, RelC U φ (hpL L) w c v → RelC U φ' (hpL L') w c' v := by
  have same : ∀ {d : C} {M : Heap R}, (d, M) = (c', L') → d = c → M = L → ∃ φ', Went U W φ0 w0 (hpL L') φ' w ∧ Ext U φ (hpL L) w φ' (hpL L') w ∧ ∀ v, RelC U φ (hpL L) w c v → RelC U φ' (hpL L') w c' v := by
    intro d M e1 e2 e3
    simp at e1; obtain ⟨rfl, rfl⟩ := e1; subst e2 e3
    exact ⟨φ, g, .refl, fun v hv => hv⟩
  unfold normC at h
  split at h
  · rename_i tag
    split at h
    · rename_i r hr
      simp at h; obtain ⟨rfl, rfl⟩ := h
      have hl : U.len r = 0 := by rw [U.len_eq, (U.lit_eq _ _ _ hr).2]; rfl
      have st := Stp.newNone (n := L.length) g.sim (by simp) r hl
      rw [← hp_app] at st
      refine ⟨_, g.step st fun b hb => ?_, st.ext, fun v hv => ?_⟩
      · rw [hp_app, hpSet_ne _ _ (by simpa using hb)]
      · obtain rfl : v = .slice none 0 0 := hv
        refine ⟨rfl, ⟨.row r, 0, 2⟩, by simp, Nat.le_refl _, fun _ _ r' hr' => ?_⟩
        simp at hr'; subst hr'
        rw [hl]
        exact ⟨by omega, none, 0, rfl, by omega, fun _ => by omega, .inl (.inl rfl)⟩
    · exact same h rfl rfl
  · rename_i b gg lo n
    split at h
    · rename_i r g' ho
      split at h
      · rename_i hc
        obtain ⟨rfl, _⟩ := hc
        simp at h; obtain ⟨rfl, rfl⟩ := h
        have hb := own_some ho
        have hlt := (List.getElem?_eq_some_iff.1 hb).1
        have htag := (U.cut_eq r lo n).1
        -- where it lies now
        have key : ∃ φ', Stp U φ (hpL L) w φ' (hpSet (hpL L) b ⟨.row (U.cut r lo n), g' + 1, 2⟩) w [b] ∧ (∀ a, φ b = some a → φ' b = some (a.add (lo * U.esz (U.tag r))) ∧ a.spot = none) := by
          rcases g.sim.own hb with ⟨r0, hk, hl, hp⟩ | ⟨a, ha, hsp, cs, t, l1, l2, hcs, hf, hcells⟩
          · simp at hk; subst hk
            have h0 : U.cells r = [] := List.eq_nil_of_length_eq_zero (by rw [← U.len_eq]; exact hl)
            have h1 : flat U (.row r) = [] := by simp [flat, h0]
            refine ⟨φ, Stp.bump g.sim hb (Nat.le_succ _) ?_ ⟨r, _, rfl, rfl, ?_, htag⟩, fun a ha => by rw [hp] at ha; simp at ha⟩
            · rw [flat_cut, h1]; simp
            · rw [U.len_eq, (U.cut_eq r lo n).2, h0, hl]; simp
          · refine ⟨phiSet φ b (some (a.add (lo * U.esz (U.tag r)))), Stp.chg g.sim hb (fun i o ho _ => ho) (fun a0 _ cs t fr hc => ⟨cs, t, fr, hc, Nat.le_refl _⟩) ⟨?_, cs, t, l1, l2, ?_, hf, fun i c hi => ?_⟩ (.inl ⟨a, ha, (add_block _ _).symm⟩) (Nat.le_refl _) rfl rfl rfl (.inr ⟨Nat.lt_succ_self _, ⟨_, rfl⟩, fun cs hc => by simp at hc⟩), fun a0 ha0 => ?_⟩
            · rw [add_off hsp]
            · rw [add_block]; exact hcs
            · rw [flat_cut] at hi
              rw [List.getElem?_take] at hi
              split at hi
              · rw [List.getElem?_drop] at hi
                obtain ⟨v, hv, hr⟩ := hcells _ c hi
                refine ⟨v, ?_, hr⟩
                rw [add_off hsp]
                simp only
                rw [← hv]; congr 1; omega
              · simp at hi
            · rw [ha] at ha0; simp at ha0; subst ha0
              exact ⟨phiSet_self .., hsp⟩
        obtain ⟨φ', st, hφ⟩ := key
        rw [← hp_set _ _ _ hlt] at st
        refine ⟨φ', g.step st fun b0 hb0 => ?_, st.ext, fun v hv => ?_⟩
        · rw [hp_set _ _ _ hlt, hpSet_ne _ _ (by simpa using hb0)]
        · have one := RelC.one U hv
          refine ⟨one, ⟨.row (U.cut r lo n), g' + 1, 2⟩, by simp [hlt], Nat.le_refl _, fun _ _ r' hr' => ?_⟩
          simp at hr'; subst hr'
          obtain ⟨h0, A, cap, rfl, h1, h2, h3⟩ := rel_sc (w := w) (by exact hv) (show hpL L b = _ from hb) (by simp)
          have hlen := len_cut (U := U) r lo n h0
          rw [hlen]
          refine ⟨by rw [hlen]; omega, A, cap, rfl, h1, fun _ => by rw [hlen]; omega, ?_⟩
          rcases h3 with h3 | ⟨a, ha, hA, hsz⟩
          · exact .inl (h3.imp id fun ⟨_, k⟩ => absurd rfl k)
          · obtain ⟨hφ1, hsp⟩ := hφ a ha
            refine .inr ⟨_, hφ1, by rw [hA]; simp [add_zero'], fun _ => ?_⟩
            obtain ⟨cs, t, fr, hcs, hle2⟩ := hsz rfl
            refine ⟨cs, t, fr, by rw [add_block]; exact hcs, ?_⟩
            rw [add_off hsp, htag]
            simp only [Nat.zero_add]
            rw [Nat.add_mul] at hle2
            omega
      · exact same h rfl rfl
    · exact same h rfl rfl
  · exact same h rfl rfl

theorem normCs_ok {rf : List Nat} : ∀ {cs cs' : List C} {L L' : Heap R} {φ : Phi}, normCs U rf L cs = (cs', L') → Went U W φ0 w0 (hpL L) φ w →
    ∃ φ', Went U W φ0 w0 (hpL L') φ' w ∧ Ext U φ (hpL L) w φ' (hpL L') w ∧ ∀ vs, All2 (RelC U φ (hpL L) w) cs vs → All2 (RelC U φ' (hpL L') w) cs' vs
  | [], cs', L, L', φ, h, g => by
    simp [normCs] at h; obtain ⟨rfl, rfl⟩ := h
    exact ⟨φ, g, .refl, fun vs hv => by rw [hv.inv_nil]; exact .nil⟩
  | c :: cs, cs', L, L', φ, h, g => by
    unfold normCs at h
    split at h
    rename_i c1 L1 h1
    split at h
    rename_i cs2 L2 h2
    simp at h; obtain ⟨rfl, rfl⟩ := h
    obtain ⟨φ1, g1, e1, k1⟩ := normC_ok h1 g
    obtain ⟨φ2, g2, e2, k2⟩ := normCs_ok h2 g1
    refine ⟨φ2, g2, e1.trans e2, fun vs hv => ?_⟩
    obtain ⟨v, vs', rfl, q1, q2⟩ := hv.inv_cons
    exact (k2 vs' (q2.mono fun _ _ h => h.mono e1)).cons ((k1 v q1).mono e2)

theorem normVs_ok {rf : List Nat} : ∀ {vs vs' : List V} {L L' : Heap R} {φ : Phi}, normVs U rf L vs = (vs', L') → Went U W φ0 w0 (hpL L) φ w →
    ∃ φ', Went U W φ0 w0 (hpL L') φ' w ∧ Ext U φ (hpL L) w φ' (hpL L') w ∧ All2 (fun v v' => ∀ u, RelV U φ (hpL L) w v u → RelV U φ' (hpL L') w v' u) vs vs'
  | [], vs', L, L', φ, h, g => by
    simp [normVs] at h; obtain ⟨rfl, rfl⟩ := h
    exact ⟨φ, g, .refl, .nil⟩
  | v :: vs, vs', L, L', φ, h, g => by
    have tail : ∀ {v1 : V} {L1 : Heap R} {φ1 : Phi} {vs2 : List V} {L2 : Heap R}, Went U W φ0 w0 (hpL L1) φ1 w → Ext U φ (hpL L) w φ1 (hpL L1) w → (∀ u, RelV U φ (hpL L) w v u → RelV U φ1 (hpL L1) w v1 u) → normVs U rf L1 vs = (vs2, L2) →
        ∃ φ', Went U W φ0 w0 (hpL L2) φ' w ∧ Ext U φ (hpL L) w φ' (hpL L2) w ∧ All2 (fun v v' => ∀ u, RelV U φ (hpL L) w v u → RelV U φ' (hpL L2) w v' u) (v :: vs) (v1 :: vs2) := by
      intro v1 L1 φ1 vs2 L2 g1 e1 k1 h2
      obtain ⟨φ2, g2, e2, k2⟩ := normVs_ok h2 g1
      exact ⟨φ2, g2, e1.trans e2, (k2.mono fun _ _ k u hu => k u (hu.mono e1)).cons fun u hu => (k1 u hu).mono e2⟩
    unfold normVs at h
    split at h
    · rename_i c
      split at h
      rename_i c1 L1 h1
      split at h
      rename_i vs2 L2 h2
      simp at h; obtain ⟨rfl, rfl⟩ := h
      obtain ⟨φ1, g1, e1, k1⟩ := normC_ok h1 g
      exact tail g1 e1 (fun u hu => k1 u hu) h2
    · rename_i cs
      split at h
      rename_i cs1 L1 h1
      split at h
      rename_i vs2 L2 h2
      simp at h; obtain ⟨rfl, rfl⟩ := h
      obtain ⟨φ1, g1, e1, k1⟩ := normCs_ok h1 g
      exact tail g1 e1 (fun u hu => by obtain ⟨us, rfl, ha⟩ := hu; exact ⟨us, rfl, k1 us ha⟩) h2
    · split at h
      rename_i vs2 L2 h2
      simp at h; obtain ⟨rfl, rfl⟩ := h
      exact tail g .refl (fun u hu => hu) h2
end
end Go.Eng
/- The engine, part 26: code. -/
namespace Go.Eng
section
variable {R : Type} {U : RowU R} {P : Program} {tagT : TypeId → Option Nat} {ρ : Type}
variable {m0 : Nat} {L L' : Heap R} {φ φ0 : Phi} {w w0 : World}

theorem canon_ok {vs vs' : List V} (h : canon m0 vs L = some (vs', L')) : ∃ fs, Ordered U m0 fs L L' ∧ vs' = vs.map (ordV m0 fs L) := by
  unfold canon at h
  simp only at h
  generalize scanN m0 L 64 0 _ = fs at h
  split at h
  · rename_i hc
    obtain ⟨h1, h2, h3, h4⟩ := hc
    simp only [Option.some.injEq, Prod.mk.injEq] at h
    obtain ⟨rfl, rfl⟩ := h
    have hmem : ∀ b ∈ fs, m0 ≤ b ∧ b < L.length := fun b hb => by
      have := List.all_eq_true.1 h3 b hb
      simpa using this
    have htl : (L.take m0).length = m0 := by simp; omega
    refine ⟨fs, ⟨h1, nodupN_ok h2, hmem, fun b x hb hx hm => ?_, fun b x hb hx => ?_, fun j b x hj hx => ?_, fun b y hy => ?_⟩, rfl⟩
    · have := List.all_eq_true.1 h4 x (List.mem_of_getElem? (i := b) (by rw [List.getElem?_take, if_pos hb]; exact hx))
      simpa [hm] using this
    · rw [List.getElem?_append_left (by simp; omega), List.getElem?_map, List.getElem?_take, if_pos hb, hx]
      rfl
    · rw [List.getElem?_append_right (by simp; omega), List.length_map, htl, show m0 + j - m0 = j by omega, List.getElem?_map, hj]
      simp [hx]
    · rcases Nat.lt_or_ge b m0 with hb | hb
      · exact ⟨b, L[b], by simp [oldB, hb], List.getElem?_eq_getElem (by omega)⟩
      · rw [List.getElem?_append_right (by simp; omega), List.length_map, htl, List.getElem?_map] at hy
        obtain ⟨b0, hb0, _⟩ := Option.map_eq_some_iff.1 hy
        have := (hmem b0 (List.mem_of_getElem? hb0)).2
        exact ⟨b0, L[b0], by unfold oldB; rw [if_neg (by omega)]; exact hb0, List.getElem?_eq_getElem this⟩
  · simp at h

theorem ordV_ok {fs : List Nat} (O : Ordered U m0 fs L L') {x : V} {v : Value} (hr : RelV U φ (hpL L) w x v) : RelV U (phO m0 fs φ) (hpL L') w (ordV m0 fs L x) v := by
  cases x with
  | c c => exact ordC_ok O hr
  | a cs =>
    obtain ⟨us, rfl, ha⟩ := hr
    exact ⟨us, rfl, All2.map (f := ordC m0 fs L) (ha.mono fun _ _ h => ordC_ok O h)⟩
  | t ps =>
    obtain ⟨us, rfl, ha⟩ := hr
    refine ⟨us, rfl, All2.map (f := fun p : Bool × List C => (p.1, p.2.map (ordC m0 fs L))) (ha.mono fun p v h => ?_)⟩
    obtain ⟨ag, cs⟩ := p
    cases ag with
    | true =>
      obtain ⟨us, rfl, ha⟩ := h
      exact ⟨us, rfl, All2.map (f := ordC m0 fs L) (ha.mono fun _ _ h => ordC_ok O h)⟩
    | false =>
      obtain ⟨c, hc, h⟩ := h
      simp only at hc; subst hc
      exact ⟨_, rfl, ordC_ok O h⟩
  | j => trivial

theorem pickS_some {fr : Fr} : ∀ {ts : List Nat} {vs : List V}, pickS fr ts = some vs → All2 (fun t v => fr[t]? = some v) ts vs
  | [], vs, h => by simp [pickS] at h; subst h; exact .nil
  | t :: ts, vs, h => by
    unfold pickS at h
    split at h
    · rename_i v vs' h1 h2
      simp at h; subst h
      exact (pickS_some h2).cons h1
    · simp at h
theorem lookS_ok {S : V → Prop} (hj : S .j) {t : Nat} : ∀ {ts : List Nat} {vs : List V}, All2 (fun s v => s = t → S v) ts vs → S (lookS t ts vs)
  | [], vs, ha => by rw [ha.inv_nil]; exact hj
  | s :: ts, vs, ha => by
    obtain ⟨v, vs', rfl, h1, h2⟩ := ha.inv_cons
    simp only [lookS]
    split
    · rename_i e; exact h1 e
    · exact lookS_ok hj h2

theorem All2.comp {α β γ : Type} {r : α → β → Prop} {s : β → γ → Prop} {xs : List α} {ys : List β} {zs : List γ} (h : All2 r xs ys) (k : All2 s ys zs) : All2 (fun x z => ∃ y, r x y ∧ s y z) xs zs :=
  ⟨h.1.trans k.1, fun i x z hx hz => by
    obtain ⟨y, hy, hr⟩ := h.get hx
    exact ⟨y, hr, k.2 i y z hy hz⟩⟩

/-- Slots that are put into order. -/
theorem canonS_ok {ts : List Nat} {fr : Fr} {K : List V → Heap R → Option ρ} {r : ρ} (h : canonS U m0 ts fr L K = some r) :
    ∃ vs L', K vs L' = some r ∧ ∀ (W : Heap R) (φ0 : Phi) (w0 : World) (φ : Phi) (w : World) (tmps : Array Value), W.length = m0 → Went U W φ0 w0 (hpL L) φ w → RelF U φ (hpL L) w fr tmps →
      ∃ φ', Went U W φ0 w0 (hpL L') φ' w ∧ RelF U φ' (hpL L') w (frOf fr.length ts vs) tmps ∧ All2 (fun t v => RelV U φ' (hpL L') w v (tmps.getD t undef)) ts vs := by
  unfold canonS at h
  split at h
  · rename_i vs hp
    split at h
    rename_i vs1 L1 hn
    split at h
    · rename_i vs' L' hc
      obtain ⟨fs, O, rfl⟩ := canon_ok (U := U) hc
      refine ⟨_, _, h, fun W φ0 w0 φ w tmps hW hg hf => ?_⟩
      obtain ⟨φ1, g1, e1, k1⟩ := normVs_ok hn hg
      have k2 : All2 (fun t v' => ∃ v, fr[t]? = some v ∧ ∀ u, RelV U φ (hpL L) w v u → RelV U (phO m0 fs φ1) (hpL L') w v' u) ts (vs1.map (ordV m0 fs L1)) := by
        refine ((pickS_some hp).comp (s := fun v v' => ∀ u, RelV U φ (hpL L) w v u → RelV U (phO m0 fs φ1) (hpL L') w v' u) ⟨by rw [List.length_map]; exact k1.1, fun i v v' hv hv' => ?_⟩)
        rw [List.getElem?_map] at hv'
        obtain ⟨v0, hv0, rfl⟩ := Option.map_eq_some_iff.1 hv'
        exact fun u hu => ordV_ok O (k1.2 i v v0 hv hv0 u hu)
      refine ⟨_, ord_went O hW g1, ⟨?_, fun t v u hv hu => ?_⟩, ⟨by simpa using k2.1, fun i t v ht hv => ?_⟩⟩
      · rw [← hf.1]; simp [frOf]
      · unfold frOf at hv
        rw [List.getElem?_map] at hv
        obtain ⟨t', ht', rfl⟩ := Option.map_eq_some_iff.1 hv
        have : t' = t := by
          obtain ⟨h1, h2⟩ := List.getElem?_eq_some_iff.1 ht'
          simpa using h2.symm
        subst this
        refine lookS_ok (S := fun v => RelV U _ (hpL L') w v u) trivial (k2.mono fun s v hsv e => ?_)
        subst e
        obtain ⟨v0, h1, h2⟩ := hsv
        exact h2 u (hf.2 _ v0 u h1 hu)
      · obtain ⟨v0, h1, h2⟩ := k2.2 i t v ht hv
        obtain ⟨u, h3, h4⟩ := RelF.get hf h1
        have : tmps.getD t undef = u := by
          obtain ⟨hl, he⟩ := Array.getElem?_eq_some_iff.1 h3
          simp [Array.getD, hl, he]
        rw [this]
        exact h2 u h4
    · simp at h
  · simp at h

/-- Values that are put into order. -/
theorem canonL_ok {vs : List V} {K : List V → Heap R → Option ρ} {r : ρ} (h : canonL U m0 vs L K = some r) :
    ∃ vs' L', K vs' L' = some r ∧ ∀ (W : Heap R) (φ0 : Phi) (w0 : World) (φ : Phi) (w : World), W.length = m0 → Went U W φ0 w0 (hpL L) φ w →
      ∃ φ', Went U W φ0 w0 (hpL L') φ' w ∧ ∀ us, All2 (RelV U φ (hpL L) w) vs us → All2 (RelV U φ' (hpL L') w) vs' us := by
  unfold canonL at h
  split at h
  rename_i vs1 L1 hn
  split at h
  · rename_i vs' L' hc
    obtain ⟨fs, O, rfl⟩ := canon_ok (U := U) hc
    refine ⟨_, _, h, fun W φ0 w0 φ w hW hg => ?_⟩
    obtain ⟨φ1, g1, e1, k1⟩ := normVs_ok hn hg
    refine ⟨_, ord_went O hW g1, fun us hus => ⟨by rw [List.length_map, ← k1.1]; exact hus.1, fun i v u hv hu => ?_⟩⟩
    rw [List.getElem?_map] at hv
    obtain ⟨v1, hv1, rfl⟩ := Option.map_eq_some_iff.1 hv
    obtain ⟨v0, hv0, hr⟩ := k1.get' hv1
    exact ordV_ok O (hr u (hus.2 i v0 u hv0 hu))
  · simp at h

def exOf : Ex → Exit
  | .normal => .normal
  | .exit i => .exit i
  | .ret => .ret

/-- Code that runs so, from these slots and this heap to those. -/
def Runs (P : Program) (U : RowU R) (m0 : Nat) (c : Code) (fr : Fr) (L : Heap R) (e : Ex) (fr' : Fr) (L' : Heap R) : Prop :=
  ∀ (W : Heap R) (φ0 : Phi) (w0 : World) (φ : Phi) (w : World) (a : Act) (Q : Exit → Act → World → Prop), W.length = m0 → Went U W φ0 w0 (hpL L) φ w → RelF U φ (hpL L) w fr a.tmps →
    (∀ φ' w' a', a'.defers = a.defers → Went U W φ0 w0 (hpL L') φ' w' → RelF U φ' (hpL L') w' fr' a'.tmps → Q (exOf e) a' w') → c.wp P Q a w

/-- WHAT IS TOLD OF A LOOP IS TRUE. -/
def LoopOk (P : Program) (U : RowU R) (E : Env R) (i : Nat) (b : Code) (h : LoopH R) : Prop :=
  ∀ (ρ : Type) (vs : List V) (L : Heap R) (Kx Kr : List V → Heap R → Option ρ) (r : ρ), h.h ρ vs L Kx Kr = some r →
    (∃ os L', Kx os L' = some r ∧ Runs P U E.m0 (.block i (.loop b)) (frOf E.n h.inn vs) L .normal (frOf E.n h.out os) L') ∨
    ∃ rs L', Kr rs L' = some r ∧ Runs P U E.m0 (.block i (.loop b)) (frOf E.n h.inn vs) L .ret (frOf E.n E.rs rs) L'
def LoopsOk (P : Program) (U : RowU R) (E : Env R) : Code → Prop
  | .seq a b => LoopsOk P U E a ∧ LoopsOk P U E b
  | .cond _ a b => LoopsOk P U E a ∧ LoopsOk P U E b
  | .block i (.loop b) => ∀ j h, E.H.find? (·.1 == i) = some (j, h) → LoopOk P U E i b h
  | .block _ b => LoopsOk P U E b
  | _ => True

theorem frOf_len (n : Nat) (ts : List Nat) (vs : List V) : (frOf n ts vs).length = n := by simp [frOf]

theorem Runs.exit {E : Env R} {c : Code} {fr : Fr} {e : Ex} (h : ∀ (a : Act) (w : World) (Q : Exit → Act → World → Prop), Q (exOf e) a w → c.wp P Q a w) : Runs P U E.m0 c fr L e fr L :=
  fun _ _ _ φ w a Q _ hg hf hQ => h a w Q (hQ φ w a rfl hg hf)

theorem ext_drew {h : Hp R} : Ext U φ h w φ h { w with drawn := w.drawn + 1 } := fun b blk hb =>
  have hd : HdrOk U w { w with drawn := w.drawn + 1 } φ φ b blk blk := ⟨rfl, rfl, fun r hr => ⟨r, hr, rfl, rfl⟩, fun cs hc => ⟨cs, hc⟩, fun _ _ cs t fr hc => ⟨cs, t, fr, hc, Nat.le_refl _⟩⟩
  ⟨blk, hb, Nat.le_refl _, fun _ cs hc => ⟨⟨cs, hc⟩, hd⟩, fun _ _ => hd⟩
theorem region_ok (hT : TagOk P U tagT) (hm : P.follows .mixedOrders = true) {E : Env R} (hTab : TabOk P U E.T) {id : Nat} {ops : Array Oper} {draw : Bool} {fr : Fr} {K : Ex → Fr → Heap R → Option ρ} {r : ρ} (hK : evC U E (compC P tagT (.region id ops draw)) fr L K = some r) :
    ∃ e fr' L', K e fr' L' = some r ∧ fr'.length = fr.length ∧ Runs P U E.m0 (.region id ops draw) fr L e fr' L' := by
  cases draw with
  | false =>
    simp only [compC, evC] at hK
    obtain ⟨fr', L', h1, h2, h3⟩ := evOps_text hT hTab (ops := ops) _ _ _ _ _ _ _ _ (compL_ok ops [] ops.toList 0) hK
    exact ⟨.normal, fr', L', h1, h2, fun W φ0 w0 φ w a Q _ hg hf hQ => wp_region_list (h3 W φ0 w0 φ w a Q hg hf hQ)⟩
  | true =>
    simp only [compC] at hK
    split at hK
    · rename_i hchk
      simp only [Bool.and_eq_true] at hchk
      simp only [evC] at hK
      obtain ⟨fr', L', xs, h1, h2, h3, h4, h5⟩ := evOps_chain hT hTab (ops := ops) _ _ _ _ _ _ _ _ (compL_ok ops (befL [] ops.toList) ops.toList 0) hK
      have hlen : fr'.length = fr.length := by
        have := (chain_end (S := fun _ => true) xs 0 fr L fr' L' h4 fun _ _ => rfl).1
        rw [← this, frF_len]
      have hso : ∀ (i : Nat) x, xs[i]? = some x → x.so.bf = (befL [] ops.toList).getD i 0 := fun i x hx => by
        have : (xs.map (·.so))[i]? = some x.so := by rw [List.getElem?_map, hx]; rfl
        rw [h2] at this
        have := compL_bf ops _ _ _ _ _ this
        rwa [Nat.zero_add] at this
      have ho : ∀ (i : Nat) x, xs[i]? = some x → ops.toList[i]? = some x.o := fun i x hx => by rw [← h3, List.getElem?_map, hx]; rfl
      refine ⟨.normal, fr', L', h1, hlen, fun W φ0 w0 φ w a Q _ hg hf hQ => wp_region_any hm ?_⟩
      have hdr : Went U W φ0 w0 (hpL L) φ { w with drawn := w.drawn + 1 } := by
        have st : Stp U φ (hpL L) w φ (hpL L) { w with drawn := w.drawn + 1 } [] := ⟨⟨hg.sim.lt, fun b blk hb => (hg.sim.blk b blk hb).keep ext_drew rfl fun _ _ _ hx => hx, hg.sim.apart⟩, ext_drew, ⟨rfl, rfl, rfl, Nat.le_refl _, fun _ _ _ => rfl⟩, fun _ _ => rfl, fun _ hb => by simp at hb, fun _ hb => by simp at hb⟩
        exact hg.step st fun _ _ => rfl
      have hfd : RelF U φ (hpL L) { w with drawn := w.drawn + 1 } fr a.tmps := RelF.mono ext_drew hf
      have hnf : ∀ (ys : List (Rec R)) (i : Nat) (fr : Fr), frF (fun k => (Array.replicate ops.size false).getD k false) i ys fr = fr := by
        intro ys
        induction ys with
        | nil => intro i fr; rfl
        | cons y ys ih =>
          intro i fr
          unfold frF
          rw [ih, if_neg]
          simp [Array.getD]
      have hnh : ∀ (ys : List (Rec R)) (i : Nat) (h : Hp R), hpF (fun k => (Array.replicate ops.size false).getD k false) i ys h = h := by
        intro ys
        induction ys with
        | nil => intro i h; rfl
        | cons y ys ih =>
          intro i h
          unfold hpF
          rw [ih, if_neg]
          simp [Array.getD]
      refine any_ok h4 h3 h5 (by rw [h2]; exact hchk.2) (fun i x hx k hk => ?_) (fun i x hx e he hb => ?_) (D := a.defers) hQ ops.size _ φ _ a (by simp) (Nat.le_trans List.countP_le_length (by simp)) (fun i x _ hl => by simp [Array.getD] at hl) rfl (by rw [hnh]; exact hdr) (by rw [hnh, hnf]; exact hfd)
      · rw [hso i x hx] at hk
        obtain ⟨e, p1, p2, p3, p4⟩ := befL_at ops.toList [] i x.o (ho i x hx) hchk.1 k (by simpa using hk)
        refine ⟨e, p1, p2, p4.imp (fun h => h) fun h => ?_⟩
        have hil : i < xs.length := (List.getElem?_eq_some_iff.1 hx).1
        have hel : e.on < xs.length := by simp at p3; omega
        exact ⟨xs[e.on], List.getElem?_eq_getElem hel, by rw [hso e.on _ (List.getElem?_eq_getElem hel)]; exact h⟩
      · have := edgesOk_at ops.toList 0 i x.o hchk.1 (ho i x hx) e he hb
        omega
    · simp [evC] at hK

/-- CODE THAT WAS EVALUATED RUNS SO. -/
theorem evC_ok (hT : TagOk P U tagT) (hm : P.follows .mixedOrders = true) {E : Env R} (hnl : E.nl = false) (hTab : TabOk P U E.T) : ∀ (c : Code), LoopsOk P U E c → ∀ (fr : Fr) (L : Heap R) (K : Ex → Fr → Heap R → Option ρ) (r : ρ), fr.length = E.n → evC U E (compC P tagT c) fr L K = some r →
    ∃ e fr' L', K e fr' L' = some r ∧ fr'.length = E.n ∧ Runs P U E.m0 c fr L e fr' L' := by
  intro c
  induction c with
  | skip => intro _ fr L K r hn hK; exact ⟨.normal, fr, L, by simpa [compC, evC] using hK, hn, .exit fun a w Q h => wp_skip h⟩
  | exit i => intro _ fr L K r hn hK; exact ⟨.exit i, fr, L, by simpa [compC, evC] using hK, hn, .exit fun a w Q h => wp_exit h⟩
  | ret => intro _ fr L K r hn hK; exact ⟨.ret, fr, L, by simpa [compC, evC] using hK, hn, .exit fun a w Q h => wp_ret h⟩
  | region id ops draw =>
    intro _ fr L K r hn hK
    obtain ⟨e, fr', L', h1, h2, h3⟩ := region_ok hT hm hTab hK
    exact ⟨e, fr', L', h1, h2.trans hn, h3⟩
  | seq a b iha ihb =>
    intro hL fr L K r hn hK
    simp only [compC, evC] at hK
    obtain ⟨e, fr1, L1, h1, h2, h3⟩ := iha hL.1 fr L _ r hn hK
    cases e with
    | normal =>
      obtain ⟨e2, fr2, L2, g1, g2, g3⟩ := ihb hL.2 fr1 L1 K r h2 h1
      refine ⟨e2, fr2, L2, g1, g2, fun W φ0 w0 φ w a Q hW hg hf hQ => wp_seq (h3 W φ0 w0 φ w a _ hW hg hf fun φ' w' a' hd hg' hf' => ?_)⟩
      exact g3 W φ0 w0 φ' w' a' Q hW hg' hf' fun φ2 w2 a2 hd2 => hQ φ2 w2 a2 (hd2.trans hd)
    | exit i => exact ⟨.exit i, fr1, L1, h1, h2, fun W φ0 w0 φ w a Q hW hg hf hQ => wp_seq (h3 W φ0 w0 φ w a _ hW hg hf fun φ' w' a' hd hg' hf' => hQ φ' w' a' hd hg' hf')⟩
    | ret => exact ⟨.ret, fr1, L1, h1, h2, fun W φ0 w0 φ w a Q hW hg hf hQ => wp_seq (h3 W φ0 w0 φ w a _ hW hg hf fun φ' w' a' hd hg' hf' => hQ φ' w' a' hd hg' hf')⟩
  | cond c a b iha ihb =>
    intro hL fr L K r hn hK
    simp only [compC] at hK
    split at hK
    · rename_i x hx
      simp only [evC] at hK
      split at hK
      · rename_i t
        split at hK
        · rename_i v hv
          rcases cond_some hK with ⟨rfl, hK⟩ | ⟨rfl, hK⟩
          · rw [set_same hv] at hK
            obtain ⟨e, fr1, L1, h1, h2, h3⟩ := iha hL.1 fr L K r hn hK
            refine ⟨e, fr1, L1, h1, h2, fun W φ0 w0 φ w a Q hW hg hf hQ => wp_cond_true ?_ (h3 W φ0 w0 φ w a Q hW hg hf hQ)⟩
            exact ev_ok hx (hf.sl (oslots (.t t))) (fun _ h => h) hv
          · rw [set_same hv] at hK
            obtain ⟨e, fr1, L1, h1, h2, h3⟩ := ihb hL.2 fr L K r hn hK
            refine ⟨e, fr1, L1, h1, h2, fun W φ0 w0 φ w a Q hW hg hf hQ => wp_cond_false ?_ (h3 W φ0 w0 φ w a Q hW hg hf hQ)⟩
            exact ev_ok hx (hf.sl (oslots (.t t))) (fun _ h => h) hv
        · simp [hnl] at hK
        · simp at hK
      · obtain ⟨e, fr1, L1, h1, h2, h3⟩ := iha hL.1 fr L K r hn hK
        refine ⟨e, fr1, L1, h1, h2, fun W φ0 w0 φ w a Q hW hg hf hQ => wp_cond_true ?_ (h3 W φ0 w0 φ w a Q hW hg hf hQ)⟩
        exact ev_ok (fr := fr) hx (hf.sl []) (fun _ h => h) rfl
      · obtain ⟨e, fr1, L1, h1, h2, h3⟩ := ihb hL.2 fr L K r hn hK
        refine ⟨e, fr1, L1, h1, h2, fun W φ0 w0 φ w a Q hW hg hf hQ => wp_cond_false ?_ (h3 W φ0 w0 φ w a Q hW hg hf hQ)⟩
        exact ev_ok (fr := fr) hx (hf.sl []) (fun _ h => h) rfl
      · simp at hK
    · simp [evC] at hK
  | block i b ih =>
    intro hL fr L K r hn hK
    have plain : LoopsOk P U E b → evC U E (.block i (compC P tagT b)) fr L K = some r → ∃ e fr' L', K e fr' L' = some r ∧ fr'.length = E.n ∧ Runs P U E.m0 (.block i b) fr L e fr' L' := by
      intro hLb hK
      simp only [evC] at hK
      obtain ⟨e, fr1, L1, h1, h2, h3⟩ := ih hLb fr L _ r hn hK
      cases e with
      | normal => exact ⟨.normal, fr1, L1, h1, h2, fun W φ0 w0 φ w a Q hW hg hf hQ => wp_block (h3 W φ0 w0 φ w a _ hW hg hf fun φ' w' a' hd hg' hf' => hQ φ' w' a' hd hg' hf')⟩
      | exit j =>
        simp only at h1
        split at h1
        · rename_i e
          subst e
          refine ⟨.normal, fr1, L1, h1, h2, fun W φ0 w0 φ w a Q hW hg hf hQ => wp_block (h3 W φ0 w0 φ w a _ hW hg hf fun φ' w' a' hd hg' hf' => ?_)⟩
          simp only [exOf, Exit.inBlock, if_true]
          exact hQ φ' w' a' hd hg' hf'
        · rename_i e
          refine ⟨.exit j, fr1, L1, h1, h2, fun W φ0 w0 φ w a Q hW hg hf hQ => wp_block (h3 W φ0 w0 φ w a _ hW hg hf fun φ' w' a' hd hg' hf' => ?_)⟩
          simp only [exOf, Exit.inBlock, if_neg e]
          exact hQ φ' w' a' hd hg' hf'
      | ret => exact ⟨.ret, fr1, L1, h1, h2, fun W φ0 w0 φ w a Q hW hg hf hQ => wp_block (h3 W φ0 w0 φ w a _ hW hg hf fun φ' w' a' hd hg' hf' => hQ φ' w' a' hd hg' hf')⟩
    cases b with
    | loop b0 =>
      simp only [compC, evC] at hK
      split at hK
      · rename_i j h hfind
        obtain ⟨vs, L1, h1, h2⟩ := canonS_ok (U := U) hK
        rw [hn] at h2
        rcases hL j h hfind _ _ _ _ _ _ h1 with ⟨os, L', g1, g2⟩ | ⟨rs, L', g1, g2⟩
        · refine ⟨.normal, _, L', g1, frOf_len .., fun W φ0 w0 φ w a Q hW hg hf hQ => ?_⟩
          obtain ⟨φ1, k1, k2, _⟩ := h2 W φ0 w0 φ w a.tmps hW hg hf
          exact g2 W φ0 w0 φ1 w a Q hW k1 k2 hQ
        · refine ⟨.ret, _, L', g1, frOf_len .., fun W φ0 w0 φ w a Q hW hg hf hQ => ?_⟩
          obtain ⟨φ1, k1, k2, _⟩ := h2 W φ0 w0 φ w a.tmps hW hg hf
          exact g2 W φ0 w0 φ1 w a Q hW k1 k2 hQ
      · simp at hK
    | skip => exact plain hL hK
    | region => exact plain hL hK
    | seq => exact plain hL hK
    | cond => exact plain hL hK
    | block => exact plain hL hK
    | rangeFunc => exact plain hL hK
    | exit => exact plain hL hK
    | scope => exact plain hL hK
    | label => exact plain hL hK
    | goto => exact plain hL hK
    | ret => exact plain hL hK
    | refuse => exact plain hL hK
  | loop b _ => intro _ fr L K r hn hK; simp [compC, evC] at hK
  | rangeFunc => intro _ fr L K r hn hK; simp [compC, evC] at hK
  | scope b _ => intro _ fr L K r hn hK; simp [compC, evC] at hK
  | label => intro _ fr L K r hn hK; simp [compC, evC] at hK
  | goto => intro _ fr L K r hn hK; simp [compC, evC] at hK
  | refuse => intro _ fr L K r hn hK; simp [compC, evC] at hK
theorem both_some {x y : Option ρ} {r : ρ} (h : both x y = some r) : x = some r ∧ y = some r := by
  unfold both at h
  split at h
  · rename_i e; exact ⟨h, e ▸ h⟩
  · simp at h
/-- ... whatever the world says of tests for nil. -/
theorem evC_wp (hT : TagOk P U tagT) (hm : P.follows .mixedOrders = true) {E : Env R} (hTab : TabOk P U E.T) : ∀ (c : Code), LoopsOk P U E c → ∀ (fr : Fr) (L : Heap R) (K : Ex → Fr → Heap R → Option ρ) (r : ρ), fr.length = E.n → evC U E (compC P tagT c) fr L K = some r →
    ∀ (W : Heap R) (φ0 : Phi) (w0 : World) (φ : Phi) (w : World) (a : Act) (Q : Exit → Act → World → Prop), W.length = E.m0 → Went U W φ0 w0 (hpL L) φ w → RelF U φ (hpL L) w fr a.tmps →
    (∀ e fr' L', K e fr' L' = some r → fr'.length = E.n → ∀ φ' w' a', a'.defers = a.defers → Went U W φ0 w0 (hpL L') φ' w' → RelF U φ' (hpL L') w' fr' a'.tmps → Q (exOf e) a' w') → c.wp P Q a w := by
  intro c
  induction c with
  | skip => intro _ fr L K r hn hK W φ0 w0 φ w a Q hW hg hf hQ; exact wp_skip (hQ .normal fr L (by simpa [compC, evC] using hK) hn φ w a rfl hg hf)
  | exit i => intro _ fr L K r hn hK W φ0 w0 φ w a Q hW hg hf hQ; exact wp_exit (hQ (.exit i) fr L (by simpa [compC, evC] using hK) hn φ w a rfl hg hf)
  | ret => intro _ fr L K r hn hK W φ0 w0 φ w a Q hW hg hf hQ; exact wp_ret (hQ .ret fr L (by simpa [compC, evC] using hK) hn φ w a rfl hg hf)
  | region id ops draw =>
    intro _ fr L K r hn hK W φ0 w0 φ w a Q hW hg hf hQ
    obtain ⟨e, fr', L', h1, h2, h3⟩ := region_ok hT hm hTab hK
    exact h3 W φ0 w0 φ w a Q hW hg hf (hQ e fr' L' h1 (h2.trans hn))
  | seq x y iha ihb =>
    intro hL fr L K r hn hK W φ0 w0 φ w a Q hW hg hf hQ
    simp only [compC, evC] at hK
    refine wp_seq (iha hL.1 fr L _ r hn hK W φ0 w0 φ w a _ hW hg hf fun e fr1 L1 h1 h2 φ' w' a' hd hg' hf' => ?_)
    cases e with
    | normal => exact ihb hL.2 fr1 L1 K r h2 h1 W φ0 w0 φ' w' a' Q hW hg' hf' fun e2 fr2 L2 q1 q2 φ2 w2 a2 hd2 => hQ e2 fr2 L2 q1 q2 φ2 w2 a2 (hd2.trans hd)
    | exit i => exact hQ (.exit i) fr1 L1 h1 h2 φ' w' a' hd hg' hf'
    | ret => exact hQ .ret fr1 L1 h1 h2 φ' w' a' hd hg' hf'
  | cond c x y iha ihb =>
    intro hL fr L K r hn hK W φ0 w0 φ w a Q hW hg hf hQ
    simp only [compC] at hK
    split at hK
    · rename_i o hx
      simp only [evC] at hK
      split at hK
      · rename_i t
        split at hK
        · rename_i v hv
          rcases cond_some hK with ⟨rfl, hK⟩ | ⟨rfl, hK⟩
          · rw [set_same hv] at hK
            exact wp_cond_true (ev_ok hx (hf.sl (oslots (.t t))) (fun _ h => h) hv) (iha hL.1 fr L K r hn hK W φ0 w0 φ w a Q hW hg hf hQ)
          · rw [set_same hv] at hK
            exact wp_cond_false (ev_ok hx (hf.sl (oslots (.t t))) (fun _ h => h) hv) (ihb hL.2 fr L K r hn hK W φ0 w0 φ w a Q hW hg hf hQ)
        · rename_i n hv
          split at hK
          · have hrel : RelV U φ (hpL L) w (.c (.ub n)) (a.eval c) := ev_ok hx (hf.sl (oslots (.t t))) (fun _ h => h) hv
            obtain ⟨b, hb, hbn⟩ := hrel
            -- the slot, told better
            have hset : ∀ {b' : Bool}, b' = b → RelF U φ (hpL L) w (fr.set t (.c (.bool b'))) a.tmps := by
              intro b' e
              subst e
              have htl := (List.getElem?_eq_some_iff.1 hv).1
              refine ⟨by simpa using hf.1, fun i v u hvi hu => ?_⟩
              rw [List.getElem?_set] at hvi
              split at hvi
              · rename_i e
                subst e
                simp only [htl, if_true, Option.some.injEq] at hvi; subst hvi
                have := hf.2 t _ u hv hu
                obtain ⟨b2, h1, h2⟩ := this
                have hx' : c = .tmp t := by
                  unfold ofOp at hx
                  split at hx
                  · simp at hx; subst hx; rfl
                  · simp at hx
                  · simp at hx
                  · simp at hx
                subst hx'
                have : a.eval (.tmp t) = u := by
                  show a.tmps.getD t undef = u
                  have hu' : a.tmps[t]? = some u := by simpa using hu
                  obtain ⟨hl, he⟩ := Array.getElem?_eq_some_iff.1 hu'
                  simp [Array.getD, hl, he]
                rw [this] at hb
                exact hb
              · exact hf.2 i v u hvi hu
            have hlen : ∀ b' : Bool, (fr.set t (.c (.bool b'))).length = E.n := fun b' => by simpa using hn
            unfold nilB at hK
            cases b with
            | true =>
              obtain rfl := hbn rfl
              simp only at hK
              exact wp_cond_true hb (iha hL.1 _ L K r (hlen _) (both_some hK).1 W φ0 w0 φ w a Q hW hg (hset rfl) hQ)
            | false =>
              refine wp_cond_false hb (ihb hL.2 (fr.set t (.c (.bool false))) L K r (hlen _) ?_ W φ0 w0 φ w a Q hW hg (hset rfl) hQ)
              split at hK
              · exact (both_some hK).2
              · exact hK
          · simp at hK
        · simp at hK
      · exact wp_cond_true (ev_ok (fr := fr) hx (hf.sl []) (fun _ h => h) rfl) (iha hL.1 fr L K r hn hK W φ0 w0 φ w a Q hW hg hf hQ)
      · exact wp_cond_false (ev_ok (fr := fr) hx (hf.sl []) (fun _ h => h) rfl) (ihb hL.2 fr L K r hn hK W φ0 w0 φ w a Q hW hg hf hQ)
      · simp at hK
    · simp [evC] at hK
  | block i b ih =>
    intro hL fr L K r hn hK W φ0 w0 φ w a Q hW hg hf hQ
    have plain : LoopsOk P U E b → evC U E (.block i (compC P tagT b)) fr L K = some r → (Code.block i b).wp P Q a w := by
      intro hLb hK
      simp only [evC] at hK
      refine wp_block (ih hLb fr L _ r hn hK W φ0 w0 φ w a _ hW hg hf fun e fr1 L1 h1 h2 φ' w' a' hd hg' hf' => ?_)
      cases e with
      | normal => exact hQ .normal fr1 L1 h1 h2 φ' w' a' hd hg' hf'
      | exit j =>
        simp only at h1
        split at h1
        · rename_i e
          subst e
          simp only [exOf, Exit.inBlock, if_true]
          exact hQ .normal fr1 L1 h1 h2 φ' w' a' hd hg' hf'
        · rename_i e
          simp only [exOf, Exit.inBlock, if_neg e]
          exact hQ (.exit j) fr1 L1 h1 h2 φ' w' a' hd hg' hf'
      | ret => exact hQ .ret fr1 L1 h1 h2 φ' w' a' hd hg' hf'
    cases b with
    | loop b0 =>
      simp only [compC, evC] at hK
      split at hK
      · rename_i j h hfind
        obtain ⟨vs, L1, h1, h2⟩ := canonS_ok (U := U) hK
        rw [hn] at h2
        obtain ⟨φ1, k1, k2, _⟩ := h2 W φ0 w0 φ w a.tmps hW hg hf
        rcases hL j h hfind _ _ _ _ _ _ h1 with ⟨os, L', g1, g2⟩ | ⟨rs, L', g1, g2⟩
        · exact g2 W φ0 w0 φ1 w a Q hW k1 k2 (hQ .normal _ L' g1 (frOf_len ..))
        · exact g2 W φ0 w0 φ1 w a Q hW k1 k2 (hQ .ret _ L' g1 (frOf_len ..))
      · simp at hK
    | skip => exact plain hL hK
    | region => exact plain hL hK
    | seq => exact plain hL hK
    | cond => exact plain hL hK
    | block => exact plain hL hK
    | rangeFunc => exact plain hL hK
    | exit => exact plain hL hK
    | scope => exact plain hL hK
    | label => exact plain hL hK
    | goto => exact plain hL hK
    | ret => exact plain hL hK
    | refuse => exact plain hL hK
  | _ => intro _ fr L K r hn hK; simp [compC, evC] at hK
end
end Go.Eng
/- The engine, part 27: bodies and loops. -/
namespace Go.Eng
section
variable {R : Type} {U : RowU R} {P : Program} {tagT : TypeId → Option Nat} {ρ : Type}

theorem sameM_ok : ∀ {W H : Heap R}, sameM W H = true → W.length ≤ H.length ∧ ∀ (b : Nat) y, H[b]? = some y → (∃ x, W[b]? = some x ∧ x.m = y.m) ∨ (W.length ≤ b ∧ y.m = 2)
  | [], H, h => by
    refine ⟨by simp, fun b y hy => .inr ⟨by simp, ?_⟩⟩
    have := List.all_eq_true.1 h y (List.mem_of_getElem? hy)
    simpa using this
  | x :: W, y :: H, h => by
    simp only [sameM, Bool.and_eq_true] at h
    obtain ⟨h1, h2⟩ := h
    obtain ⟨g1, g2⟩ := sameM_ok h2
    refine ⟨by simp; exact g1, fun b z hz => ?_⟩
    cases b with
    | zero => simp at hz; subst hz; exact .inl ⟨x, rfl, by simpa using h1⟩
    | succ b =>
      rcases g2 b z (by simpa using hz) with ⟨u, h3, h4⟩ | ⟨h3, h4⟩
      · exact .inl ⟨u, by simpa using h3, h4⟩
      · exact .inr ⟨by simp; omega, h4⟩
  | _ :: _, [], h => by simp [sameM] at h

/-- A run that is over is what a call leaves. -/
theorem went_left {W H : Heap R} {φ0 φ : Phi} {w0 w : World} {v : V} {val : Value} (g : Went U W φ0 w0 (hpL H) φ w) (hm : sameM W H = true) (hv : RelV U φ (hpL H) w v val) : Left U W φ0 w0 v H val w := by
  obtain ⟨hl, hsame⟩ := sameM_ok hm
  let φ2 : Phi := fun b => if b < H.length then φ b else φ0 b
  have hφ : ∀ (b : Nat) x, hpL H b = some x → φ2 b = φ b := fun b x hx => by
    have := (List.getElem?_eq_some_iff.1 hx).1
    simp [φ2, this]
  have he : Ext U φ (hpL H) w φ2 (hpL H) w := fun b x hx => by
    have hd : HdrOk U w w φ φ2 b x x := ⟨rfl, hφ b x hx, fun r hr => ⟨r, hr, rfl, rfl⟩, fun cs hc => ⟨cs, hc⟩, fun _ _ cs t fr hc => ⟨cs, t, fr, hc, Nat.le_refl _⟩⟩
    exact ⟨x, hx, Nat.le_refl _, fun _ cs hc => ⟨⟨cs, hc⟩, hd⟩, fun _ _ => hd⟩
  let Wc : List Nat := (List.range W.length).filter (fun b => match W[b]? with | some x => x.m == 2 | none => false) ++ List.range' W.length (H.length - W.length)
  have hWc : ∀ b, b ∈ Wc ↔ (∃ x, W[b]? = some x ∧ x.m = 2) ∨ (W.length ≤ b ∧ b < H.length) := by
    intro b
    simp only [Wc, List.mem_append, List.mem_filter, List.mem_range, List.mem_range'_1]
    constructor
    · rintro (⟨h1, h2⟩ | h)
      · rw [List.getElem?_eq_getElem h1] at h2 ⊢
        exact .inl ⟨_, rfl, by simpa using h2⟩
      · exact .inr ⟨h.1, by omega⟩
    · rintro (⟨x, h1, h2⟩ | h)
      · exact .inl ⟨(List.getElem?_eq_some_iff.1 h1).1, by rw [h1]; simp [h2]⟩
      · exact .inr ⟨h.1, by omega⟩
  refine ⟨φ2, Wc, hv.mono he, ⟨⟨fun b x a hb hm ha => ?_, fun b x hb => (g.sim.blk b x hb).keep he (hφ b x hb) fun _ _ _ hx => hx, fun b b' x x' a a' hne hb hb' hm hm' ha ha' => ?_⟩, g.ext.trans he, ⟨g.os, g.tape, g.output, g.size, fun i hi hno => ?_⟩, fun b hb => ?_, fun b hb a ha => ?_, fun b hb => ?_⟩, fun k x hx hm => (g.ro k x hx hm).1⟩
  · rw [hφ b x hb] at ha; exact g.sim.lt b x a hb hm ha
  · rw [hφ b x hb] at ha; rw [hφ b' x' hb'] at ha'; exact g.sim.apart b b' x x' a a' hne hb hb' hm hm' ha ha'
  · exact g.blk i hi fun b x a hx hm ha => hno b ((hWc b).2 (.inl ⟨x, hx, hm⟩)) x a hx hm ha
  · have hb := fun h => hb ((hWc b).2 h)
    by_cases hlt : b < H.length
    · have hbW : b < W.length := by
        rcases Nat.lt_or_ge b W.length with h | h
        · exact h
        · exact absurd (.inr ⟨h, hlt⟩) hb
      have hx := List.getElem?_eq_getElem hbW
      have hm : W[b].m ≠ 2 := fun e => hb (.inl ⟨_, hx, e⟩)
      rw [show φ2 b = φ b by simp [φ2, hlt], (g.ro b _ hx hm).2]
    · simp [φ2, hlt]
  · by_cases hlt : b < H.length
    · have hy := List.getElem?_eq_getElem hlt
      rw [show φ2 b = φ b by simp [φ2, hlt]] at ha
      have hym : H[b].m = 2 := by
        rcases hsame b _ hy with ⟨x, h1, h2⟩ | ⟨_, h2⟩
        · rcases (hWc b).1 hb with ⟨x', h3, h4⟩ | ⟨h3, _⟩
          · rw [h1] at h3; simp at h3; subst h3; omega
          · have := (List.getElem?_eq_some_iff.1 h1).1; omega
        · exact h2
      rcases g.own b _ a hy hym ha with ⟨x0, a0, q1, q2, q3, q4⟩ | h
      · exact .inl ⟨x0, a0, q1, q2, q3, q4⟩
      · exact .inr h
    · rcases (hWc b).1 hb with ⟨x', h3, h4⟩ | ⟨_, h3⟩
      · have := (List.getElem?_eq_some_iff.1 h3).1; omega
      · exact absurd h3 hlt
  · rcases (hWc b).1 hb with ⟨x, h1, h2⟩ | ⟨h1, _⟩
    · exact .inl ⟨x, h1, h2⟩
    · exact .inr (List.getElem?_eq_none h1)

theorem partsV_ok {φ : Phi} {h : Hp R} {w : World} : ∀ {vs : List V} {ps : List (Bool × List C)} {us : List Value}, partsV vs = some ps → All2 (RelV U φ h w) vs us → All2 (RelP U φ h w) ps us
  | [], ps, us, hp, ha => by simp [partsV] at hp; subst hp; rw [ha.inv_nil]; exact .nil
  | v :: vs, ps, us, hp, ha => by
    obtain ⟨u, us', rfl, h1, h2⟩ := ha.inv_cons
    unfold partsV at hp
    split at hp
    · rename_i p ps' e1 e2
      simp at hp; subst hp
      refine (partsV_ok e2 h2).cons ?_
      cases v <;> simp [partV] at e1
      · subst e1; exact ⟨_, rfl, h1⟩
      · subst e1; exact h1
    · simp at hp
theorem retV_ok {φ : Phi} {h : Hp R} {w : World} {vs : List V} {us : List Value} (ha : All2 (RelV U φ h w) vs us) : RelV U φ h w (retV vs) (if h : us.toArray.size = 1 then us.toArray[0] else .tuple us.toArray) := by
  have hl := ha.1
  unfold retV
  split
  · rename_i v
    obtain ⟨u, us', rfl, h1, h2⟩ := ha.inv_cons
    obtain rfl := h2.inv_nil
    simpa using h1
  · rename_i hne
    split
    · rename_i ps hp
      have hs : us.toArray.size ≠ 1 := by
        intro e
        simp at e
        rw [e] at hl
        obtain ⟨v, rfl⟩ := List.length_eq_one_iff.1 hl
        exact hne v rfl
      rw [dif_neg hs]
      exact ⟨us, rfl, partsV_ok hp ha⟩
    · trivial

/-- The results of a function, as the evaluator reads them. -/
def resOk (P : Program) : List ResultVar → List Nat → List (Option (Bool × Nat)) → Bool
  | [], [], [] => true
  | .tmp t :: rs, s :: ss, none :: ks => t == s && resOk P rs ss ks
  | .cell a t :: rs, s :: ss, some (ag, n) :: ks => a == s && agT P t == some ag && szT P t == some n && ((ag || n == 1) && n != 0) && resOk P rs ss ks
  | _, _, _ => false
def resRun (tmps : Array Value) : ResultVar → Sem Value
  | .tmp t => pure (tmps.getD t undef)
  | .cell a t => do loadVar t (← asAddr (tmps.getD a undef))
theorem run_res {L : Heap R} {φ : Phi} {w : World} {fr : Fr} {tmps : Array Value} (hs : Sim U φ (hpL L) w) (hf : RelF U φ (hpL L) w fr tmps) : ∀ {rs : List ResultVar} {ss : List Nat} {ks : List (Option (Bool × Nat))} {vs : List V}, resOk P rs ss ks = true → loadR fr L ss ks = some vs →
    ∃ us : List Value, (rs.mapM (resRun tmps)).run P w = .ok us w ∧ All2 (RelV U φ (hpL L) w) vs us := by
  intro rs
  induction rs with
  | nil =>
    intro ss ks vs hr hl
    cases ss <;> cases ks <;> simp [resOk] at hr
    simp [loadR] at hl; subst hl
    exact ⟨[], by simp, .nil⟩
  | cons x rs ih =>
    intro ss ks vs hr hl
    cases ss with
    | nil => cases x <;> cases ks <;> simp [resOk] at hr
    | cons s ss =>
      cases ks with
      | nil => cases x <;> simp [resOk] at hr
      | cons k ks =>
        unfold loadR at hl
        split at hl
        · rename_i v vs1 hv hvs
          obtain ⟨u0, hu0, hrel0⟩ := RelF.get hf hv
          have hget : tmps.getD s undef = u0 := by
            obtain ⟨hl, he⟩ := Array.getElem?_eq_some_iff.1 hu0
            simp [Array.getD, hl, he]
          cases x with
          | tmp t =>
            cases k with
            | some k => simp [resOk] at hr
            | none =>
              simp only [resOk, Bool.and_eq_true, beq_iff_eq] at hr
              obtain ⟨rfl, hr⟩ := hr
              simp at hl; subst hl
              obtain ⟨us, h1, h2⟩ := ih hr hvs
              refine ⟨u0 :: us, ?_, h2.cons hrel0⟩
              simp [List.mapM_cons, resRun, Sem.run_bind, h1, hget]
          | cell a t =>
            cases k with
            | none => simp [resOk] at hr
            | some k =>
              obtain ⟨ag, n⟩ := k
              simp only [resOk, Bool.and_eq_true, beq_iff_eq] at hr
              obtain ⟨⟨⟨⟨rfl, hag⟩, hn⟩, hn1⟩, hr⟩ := hr
              split at hl
              · rename_i e; simp at e
              · rename_i ag' n' b off e
                simp at e; obtain ⟨rfl, rfl⟩ := e
                split at hl
                · rename_i cs g m hb
                  split at hl
                  · simp at hl
                  · rename_i hm
                    split at hl
                    · rename_i hle
                      split at hl
                      · rename_i u hu
                        simp at hl; subst hl
                        obtain ⟨us, h1, h2⟩ := ih hr hvs
                        obtain ⟨cs2, g2, m2, hb2, hm2, ad, had, hv2⟩ := hrel0
                        have hb' : (hpL L) b = some ⟨.box cs, g, m⟩ := hb
                        rcases hs.cells hb' hm with ⟨_, hnb⟩ | ⟨ad', ha', hcells⟩
                        · exact absurd rfl (hnb cs)
                        · rw [ha'] at had; simp at had; subst had
                          obtain ⟨val, hrun, hrel⟩ := run_loadVar (P := P) (ad := ad'.add off) hag hn (by simpa using hn1) (by simp; omega) hu (fun i c hi => by
                            rw [List.getElem?_take] at hi
                            split at hi
                            · rw [List.getElem?_drop] at hi
                              obtain ⟨u, hu, hr⟩ := hcells (off + i) c hi
                              exact ⟨u, by rw [add_add]; exact hu, hr⟩
                            · simp at hi)
                          refine ⟨val :: us, ?_, h2.cons hrel⟩
                          subst hv2
                          have hrun' : (loadVar t (ad'.add off)).run P w = .ok val w := by simpa [Instr.loadAt, Instr.sureAddr] using hrun
                          simp [List.mapM_cons, resRun, Sem.run_bind, h1, hget, asAddr, hrun']
                      · simp at hl
                    · simp at hl
                · simp at hl
              · simp at hl
        · simp at hl
theorem run_results {fn : Func} {tmps : Array Value} {w : World} {us : List Value} (h : (fn.results.toList.mapM (resRun tmps)).run P w = .ok us w) :
    (results fn tmps).run P w = .ok (if h : us.toArray.size = 1 then us.toArray[0] else .tuple us.toArray) w := by
  unfold results
  rw [Array.mapM_eq_mapM_toList]
  have key : ∀ (g : ResultVar → Sem Value), (∀ x, g x = resRun tmps x) → (fn.results.toList.mapM g).run P w = .ok us w := fun g hg => by
    rw [show g = resRun tmps from funext hg]; exact h
  simp only [Sem.run_bind, Sem.run_map]
  rw [key _ (fun x => by cases x <;> rfl)]
  simp only [Result.andThen_ok, Sem.run_pure]

/-- A BODY THAT WAS EVALUATED ANSWERS SO. -/
theorem body_calls (hT : TagOk P U tagT) (hm : P.follows .mixedOrders = true) {E : Env R} (hTab : TabOk P U E.T) {f : Nat} {fn : Func} {c : Code} (hf : P.funcs[f]? = some fn) (hb : fn.body = some c) (hn : fn.ntmps = E.n) (hr : resOk P fn.results.toList E.rs E.rk = true)
    (hL : LoopsOk P U E c) {args : List V} {W : Heap R} {v : V} {H : Heap R} (hK : evBody U E (compC P tagT c) args W (fun v H => some (v, H)) = some (v, H)) :
    ∀ (φ : Phi) (w : World) (vals : Array Value), Sim U φ (hpL W) w → All2 (RelV U φ (hpL W) w) args vals.toList → Calls P f vals w fun e w' => ∃ v', e = .returned v' ∧ Left U W φ w v H v' w' := by
  unfold evBody at hK
  split at hK
  · rename_i hc
    obtain ⟨hla, hW⟩ := hc
    intro φ w vals hsim hargs
    refine calls_of_wp hf hb ?_
    refine evC_wp hT hm hTab c hL _ W _ (v, H) (by simp; omega) hK W φ w φ w _ _ hW (.refl hsim) ?_ fun e fr' L' h1 hlen φ' w' a' hd hg hfr => ?_
    · have hsz : vals.size = args.length := by have := hargs.1; simp at this; omega
      have : All2 (RelV U φ (hpL W) w) (args ++ List.replicate (E.n - args.length) (.t [])) (vals.toList ++ List.replicate (E.n - args.length) undef) := hargs.append (All2.replicate _ rel_undef)
      unfold RelF
      simpa [hn, hsz] using this
    · have fin : (match loadR fr' L' E.rs E.rk with
          | some vs => canonL U E.m0 vs L' (fun rs L => if sameM W L then some (retV rs, L) else none)
          | none => none) = some (v, H) → (a'.defers = [] ∧ ∃ v0, (results fn a'.tmps).run P w' = .ok v0 w' ∧ ∃ v', Ending.returned v0 = .returned v' ∧ Left U W φ w v H v' w') := by
        intro h1
        split at h1
        · rename_i vs hvs
          obtain ⟨rs, L2, g1, g2⟩ := canonL_ok (U := U) h1
          split at g1
          · rename_i hsm
            simp at g1; obtain ⟨rfl, rfl⟩ := g1
            obtain ⟨us, r1, r2⟩ := run_res (P := P) hg.sim hfr hr hvs
            obtain ⟨φ2, k1, k2⟩ := g2 W φ w φ' w' hW hg
            exact ⟨hd, _, run_results r1, _, rfl, went_left k1 hsm (retV_ok (k2 us r2))⟩
          · simp at g1
        · simp at h1
      cases e with
      | exit i => simp at h1
      | normal => exact fin h1
      | ret => exact fin h1
  · simp at hK

theorem body_ok (hT : TagOk P U tagT) (hm : P.follows .mixedOrders = true) {E : Env R} (hTab : TabOk P U E.T) {f : Nat} {fn : Func} {c : Code} (hf : P.funcs[f]? = some fn) (hname : (fn.name == "runtime.NumGoroutine") = false) (hb : fn.body = some c) (hn : fn.ntmps = E.n) (hr : resOk P fn.results.toList E.rs E.rk = true)
    (hL : LoopsOk P U E c) {args : List V} {W : Heap R} {v : V} {H : Heap R} (hK : evBody U E (compC P tagT c) args W (fun v H => some (v, H)) = some (v, H)) :
    ∀ (φ : Phi) (w : World) (vals : Array Value), Sim U φ (hpL W) w → All2 (RelV U φ (hpL W) w) args vals.toList → FnDoes P f vals w (Left U W φ w v H) :=
  fun φ w vals hs ha => FnDoes.of_calls hf hname (by rw [hb]; rfl) (body_calls hT hm hTab hf hb hn hr hL hK φ w vals hs ha)
end
end Go.Eng
/- The engine, part 28: a callee from its body. -/
namespace Go.Eng
section
variable {R : Type} {U : RowU R} {P : Program} {tagT : TypeId → Option Nat}

/-- What is told of a callee is true where its body, evaluated, says it. -/
theorem callee_of (hT : TagOk P U tagT) (hm : P.follows .mixedOrders = true) {E : Env R} (hTab : TabOk P U E.T) {f : Nat} {fn : Func} {c : Code} (hf : P.funcs[f]? = some fn) (hname : (fn.name == "runtime.NumGoroutine") = false) (hb : fn.body = some c) (hn : fn.ntmps = E.n) (hr : resOk P fn.results.toList E.rs E.rk = true)
    (hL : LoopsOk P U E c) {ce : Callee R} (h : ∀ (ρ : Type) (vs : List V) (W : Heap R) (K : V → Heap R → Option ρ) (r : ρ), ce.t ρ vs W K = some r → ∃ v H, K v H = some r ∧ evBody U E (compC P tagT c) vs W (fun v H => some (v, H)) = some (v, H)) : CalleeOk P U f ce :=
  fun ρ vs W K r ht => by
    obtain ⟨v, H, h1, h2⟩ := h ρ vs W K r ht
    exact ⟨v, H, h1, body_ok hT hm hTab hf hname hb hn hr hL h2⟩

theorem TabOk.nil : TabOk P U ([] : List (Nat × Callee R)) := fun f ce h => by simp at h
theorem TabOk.cons {f : Nat} {ce : Callee R} {T : List (Nat × Callee R)} (h : CalleeOk P U f ce) (hT : TabOk P U T) : TabOk P U ((f, ce) :: T) := fun g d hd => by
  rcases List.mem_cons.1 hd with e | hd
  · simp at e; obtain ⟨rfl, rfl⟩ := e; exact h
  · exact hT g d hd
end
end Go.Eng
