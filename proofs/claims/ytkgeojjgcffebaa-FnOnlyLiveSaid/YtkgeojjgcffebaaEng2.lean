/- An evaluator of the loaded program over an abstract heap, proved right: part 2. -/
import Derived.Test.YtkgeojjgcffebaaEng1
import Derived.Laws.BytesArg
import Derived.Laws.IdiomStrings
import Derived.Laws.MakeOwn
import Derived.Laws.Tables
import Derived.Laws.IdiomCopy
import Derived.Lib.SliceRun
import Derived.Laws.Runes
set_option linter.unusedVariables false
set_option linter.unusedSimpArgs false
set_option linter.unusedSectionVars false
/- The engine, part 9: cuts of slices and strings, bytes to strings, functions with what they capture. -/
namespace Go.Eng
section
variable {R : Type} {U : RowU R} {P : Program} {tagT : TypeId → Option Nat} {ρ : Type}
variable {fr : Fr} {L : Heap R} {o : Oper} {K : KV R ρ} {r : ρ}

theorem slOk_cut {φ : Phi} {w : World} {b m : Nat} {row : R} {lo n l h : Nat} {A : Option Addr} {cap : Nat} (hs : SlOk U φ w b m row lo n (.slice A n cap)) (h1 : l ≤ h) (h2 : h ≤ n ∨ (m = 2 ∧ lo + h ≤ U.len row)) :
    h ≤ cap ∧ SlOk U φ w b m row (lo + l) (h - l) (.slice (if cap = l then A else A.map (·.add (l * U.esz (U.tag row)))) (h - l) (cap - l)) := by
  obtain ⟨h0, A', cap', hv, h3, h4, h5⟩ := hs
  simp at hv
  obtain ⟨rfl, rfl⟩ := hv
  have hhc : h ≤ cap := by
    rcases h2 with h2 | ⟨e, h2⟩
    · omega
    · have := h4 e; omega
  have hmn : m ≠ 2 → h ≤ n := fun e => by
    rcases h2 with h2 | ⟨e2, _⟩
    · exact h2
    · exact absurd e2 e
  refine ⟨hhc, ?_⟩
  refine ⟨by omega, _, _, rfl, by omega, fun e => by have := h4 e; omega, ?_⟩
  by_cases hc : cap = l
  · exact .inl (.inl (by omega))
  · rcases h5 with (h5 | ⟨h5, h6⟩) | ⟨a, ha, rfl, hsz⟩
    · omega
    · exact .inl (.inr ⟨by have := hmn h6; omega, h6⟩)
    · refine .inr ⟨a, ha, by rw [if_neg hc, Option.map_some, add_add, Nat.add_mul], fun e => ?_⟩
      obtain ⟨cs, t, fr, hcs, hle⟩ := hsz e
      exact ⟨cs, t, fr, hcs, by rw [show lo + l + (cap - l) = lo + cap by omega]; exact hle⟩
theorem sfOk_cut {φ : Phi} {w : World} {b m : Nat} {row : R} {lo n l h : Nat} {A : Option Addr} {cap : Nat} (hs : SlOk U φ w b m row lo n (.slice A n cap)) (h1 : l ≤ h) (h2 : h ≤ n) :
    SfOk U φ b row (lo + l) (h - l) (.slice (if h = l then A else A.map (·.add (l * U.esz (U.tag row)))) (h - l) (h - l)) := by
  obtain ⟨h0, A', cap', hv, h3, h4, h5⟩ := hs
  simp at hv
  obtain ⟨rfl, rfl⟩ := hv
  refine ⟨by omega, _, rfl, ?_⟩
  by_cases hc : h = l
  · exact .inl (by omega)
  · rcases h5 with (h5 | ⟨h5, h6⟩) | ⟨a, ha, rfl, hsz⟩
    · omega
    · omega
    · exact .inr ⟨a, ha, by rw [if_neg hc, Option.map_some, add_add, Nat.add_mul]⟩

/-- The bounds as the machine has them. -/
theorem bound_ok {X : Option Operand} {x : Option Opd} {d n : Int} {a : Act} {φ : Phi} {h : Hp R} {w : World} {ts : List Nat} (hx : ofOpt P tagT X = some x) (hs : Sl U φ h w fr a ts) (hsub : ∀ t ∈ ooslots x, t ∈ ts) (hb : bound fr d x = some n) :
    (X = none ∧ x = none ∧ n = d) ∨ ∃ Y y k, X = some Y ∧ x = some y ∧ a.eval Y = .int k n := by
  cases X with
  | none =>
    simp [ofOpt] at hx; subst hx
    simp [bound] at hb
    exact .inl ⟨rfl, rfl, hb.symm⟩
  | some Y =>
    simp only [ofOpt, Option.map_eq_some_iff] at hx
    obtain ⟨y, hy, rfl⟩ := hx
    simp only [bound] at hb
    split at hb
    · rename_i k n' e
      simp at hb; subst hb
      exact .inr ⟨Y, y, k, rfl, rfl, relInt (ev_ok hy hs hsub e)⟩
    · simp at hb

theorem run_cut {t e : Nat} (hu : P.underlying t = some (.slice e)) {sz : Nat} (hsz : szT P e = some sz) (w : World) (A : Option Addr) (len cap : Nat) (X Y : Option Operand) (a : Act) (l h : Int)
    (hX : (X = none ∧ l = 0) ∨ ∃ Z k, X = some Z ∧ a.eval Z = .int k l) (hY : (Y = none ∧ h = len) ∨ ∃ Z k, Y = some Z ∧ a.eval Z = .int k h) (h0 : 0 ≤ l) (h1 : l ≤ h) (h2 : h ≤ (cap : Int)) :
    (Instr.sliceAt t (.slice A len cap) (X.map a.eval) (Y.map a.eval) none).run P w = .ok (.slice (if cap = l.toNat then A else A.map (·.add (l.toNat * sz))) (h.toNat - l.toNat) (cap - l.toNat)) w := by
  have e1 : h ≤ (cap : Int) := h2
  have e2 : (h.toNat : Int) = h := by omega
  have e3 : 0 ≤ h := by omega
  rcases hX with ⟨rfl, rfl⟩ | ⟨Z, k, rfl, hZ⟩ <;> rcases hY with ⟨rfl, rfl⟩ | ⟨Z', k', rfl, hZ'⟩
  all_goals simp_all [Instr.sliceAt, run_und hu, Instr.slice, Instr.sliceBounds, run_sliceBound, run_szT hsz]
theorem run_cut3 {t e : Nat} (hu : P.underlying t = some (.slice e)) {sz : Nat} (hsz : szT P e = some sz) (w : World) (A : Option Addr) (len cap : Nat) (X : Option Operand) (Y Y' : Operand) (a : Act) (l h : Int) (k k' : IntKind)
    (hX : (X = none ∧ l = 0) ∨ ∃ Z k, X = some Z ∧ a.eval Z = .int k l) (hY : a.eval Y = .int k h) (hY' : a.eval Y' = .int k' h) (h0 : 0 ≤ l) (h1 : l ≤ h) (h2 : h ≤ len) (h3 : len ≤ cap) :
    (Instr.sliceAt t (.slice A len cap) (X.map a.eval) (some (a.eval Y)) (some (a.eval Y'))).run P w = .ok (.slice (if h.toNat = l.toNat then A else A.map (·.add (l.toNat * sz))) (h.toNat - l.toNat) (h.toNat - l.toNat)) w := by
  have e1 : h ≤ (cap : Int) := by omega
  have e2 : (h.toNat : Int) = h := by omega
  have e3 : 0 ≤ h := by omega
  rcases hX with ⟨rfl, rfl⟩ | ⟨Z, k0, rfl, hZ⟩
  all_goals simp_all [Instr.sliceAt, run_und hu, Instr.slice, Instr.sliceBounds, run_sliceBound, run_szT hsz]

theorem run_cut4 {t e : Nat} (hu : P.underlying t = some (.slice e)) {sz : Nat} (hsz : szT P e = some sz) (w : World) (A : Option Addr) (len cap : Nat) (X : Option Operand) (Y Y' : Operand) (a : Act) (l h m : Int) (k k' : IntKind)
    (hX : (X = none ∧ l = 0) ∨ ∃ Z k, X = some Z ∧ a.eval Z = .int k l) (hY : a.eval Y = .int k h) (hY' : a.eval Y' = .int k' m) (h0 : 0 ≤ l) (h1 : l ≤ h) (h2 : h ≤ m) (h3 : m ≤ len) (h4 : len ≤ cap) :
    (Instr.sliceAt t (.slice A len cap) (X.map a.eval) (some (a.eval Y)) (some (a.eval Y'))).run P w = .ok (.slice (if m.toNat = l.toNat then A else A.map (·.add (l.toNat * sz))) (h.toNat - l.toNat) (m.toNat - l.toNat)) w := by
  have e1 : m ≤ (cap : Int) := by omega
  have e2 : (h.toNat : Int) = h := by omega
  have e5 : (m.toNat : Int) = m := by omega
  have e3 : 0 ≤ h := by omega
  have e4 : 0 ≤ m := by omega
  rcases hX with ⟨rfl, rfl⟩ | ⟨Z, k0, rfl, hZ⟩
  all_goals simp_all [Instr.sliceAt, run_und hu, Instr.slice, Instr.sliceBounds, run_sliceBound, run_szT hsz]
theorem limOf_some {c : C} {len x : Nat} (h : x ≤ limOf U L len c) : x ≤ len ∨ ∃ b g lo n r, c = .sc b g lo n ∧ L[b]? = some ⟨.row r, g, 2⟩ ∧ x ≤ U.len r - lo := by
  unfold limOf at h
  split at h
  · rename_i b g lo n
    split at h
    · rename_i r g' ho
      split at h
      · rename_i e
        subst e
        by_cases hx : x ≤ len
        · exact .inl hx
        · refine .inr ⟨b, g', lo, n, r, rfl, ?_, by
            have : Nat.max len (U.len r - lo) = max len (U.len r - lo) := rfl
            omega⟩
          unfold own at ho
          split at ho
          · rename_i k g2 hb
            simp at ho; obtain ⟨rfl, rfl⟩ := ho
            exact hb
          · simp at ho
      · exact .inl h
    · exact .inl h
  · exact .inl h

theorem cutOf_ok {φ : Phi} {h : Hp R} {w : World} {c : C} {len l hh tag : Nat} {full : Bool} {v : Value} (hl : lenOf U L c = some len) (htag : tagIs U tag L c = true) (hA : ∀ b ∈ blkOf c, h b = L[b]?) (hr : RelC U φ h w c v) (h1 : l ≤ hh) (h2 : hh ≤ limOf U L len c) (hfu : full = true → hh ≤ len) :
    ∃ A cap, v = .slice A len cap ∧ len ≤ cap ∧ hh ≤ cap ∧
      RelC U φ h w (cutOf c full l (hh - l)) (if full then .slice (if hh = l then A else A.map (·.add (l * U.esz tag))) (hh - l) (hh - l) else .slice (if cap = l then A else A.map (·.add (l * U.esz tag))) (hh - l) (cap - l)) := by
  have junk : ∀ (A : Option Addr) cap, RelC U φ h w .j (if full then .slice (if hh = l then A else A.map (·.add (l * U.esz tag))) (hh - l) (hh - l) else .slice (if cap = l then A else A.map (·.add (l * U.esz tag))) (hh - l) (cap - l)) := by
    intro A cap; cases full <;> rfl
  rcases lenOf_some hl with ⟨t, rfl, rfl⟩ | ⟨b, g, r, m, hb, hm, hbk, hc⟩
  · have h3 : hh ≤ 0 := h2
    have e1 : hh = 0 := by omega
    have e2 : l = 0 := by omega
    subst e1 e2
    refine ⟨none, 0, hr, Nat.le_refl _, h3, ?_⟩
    cases full <;> rfl
  · have hb' : h b = some ⟨.row r, g, m⟩ := by rw [hA b (by rw [hbk]; simp), hb]
    rcases hc with ⟨rfl, rfl⟩ | ⟨lo, rfl⟩ | ⟨lo, rfl⟩
    · have htg := tagIs_row htag hb (.inl rfl)
      have hs := rel_sl hr hb' hm
      obtain ⟨_, A, cap, rfl, hle, _⟩ := id hs
      have h2' : hh ≤ U.len r := h2
      obtain ⟨hhc, hcut⟩ := slOk_cut hs h1 (.inl h2')
      refine ⟨A, cap, rfl, hle, hhc, ?_⟩
      rw [← htg]
      cases full
      · have := hcut
        rw [Nat.zero_add] at this
        exact ⟨rfl, _, hb', Nat.le_refl _, fun _ _ r' hr' => by simp at hr'; subst hr'; exact this⟩
      · have := sfOk_cut hs h1 h2'
        rw [Nat.zero_add] at this
        exact ⟨rfl, _, hb', Nat.le_refl _, fun _ _ r' hr' => by simp at hr'; subst hr'; exact this⟩
    · have htg := tagIs_row htag hb (.inr (.inl ⟨_, _, rfl⟩))
      have hs := rel_sc hr hb' hm
      obtain ⟨_, A, cap, rfl, hle, _⟩ := id hs
      have h3 : hh ≤ len ∨ (m = 2 ∧ lo + hh ≤ U.len r) := by
        rcases limOf_some h2 with h2 | ⟨b2, g2, lo2, n2, r2, e, hb2, h2⟩
        · exact .inl h2
        · simp at e; obtain ⟨rfl, rfl, rfl, rfl⟩ := e
          rw [hb] at hb2; simp at hb2; obtain ⟨rfl, rfl⟩ := hb2
          have := hs.1
          exact .inr ⟨rfl, by omega⟩
      obtain ⟨hhc, hcut⟩ := slOk_cut hs h1 h3
      refine ⟨A, cap, rfl, hle, hhc, ?_⟩
      rw [← htg]
      cases full
      · exact ⟨rfl, _, hb', Nat.le_refl _, fun _ _ r' hr' => by simp at hr'; subst hr'; exact hcut⟩
      · exact ⟨rfl, _, hb', Nat.le_refl _, fun _ _ r' hr' => by simp at hr'; subst hr'; exact sfOk_cut hs h1 (hfu rfl)⟩
    · obtain ⟨_, A, rfl, _⟩ := rel_sf (w := w) hr hb' hm
      have h3 : hh ≤ len := h2
      refine ⟨A, len, rfl, Nat.le_refl _, h3, ?_⟩
      cases full <;> exact junk A len

theorem ok_slc (hT : TagOk P U tagT) {X : Operand} {lo hi mx : Option Operand} {x : Opd} {lo' hi' mx' : Option Opd} {t e tag : Nat} {t1 : Option TypeId} (ho : o.op = .slice t X lo hi mx) (hu : P.underlying t = some (.slice e)) (hg : tagT e = some tag)
    (hx : ofOp P tagT t1 X = some x) (hlo : ofOpt P tagT lo = some lo') (hhi : ofOpt P tagT hi = some hi') (hmx : ofOpt P tagT mx = some mx')
    (hK : evOp U fr L (.slc tag x lo' hi' mx') K = some r) : Res P U fr L (.slc tag x lo' hi' mx') o K r := by
  have hsz := hT.size hg
  have s1 : ∀ n ∈ oslots x, n ∈ slots (.slc tag x lo' hi' mx') := fun n h => by simp [slots, h]
  have s2 : ∀ n ∈ ooslots lo', n ∈ slots (.slc tag x lo' hi' mx') := fun n h => by simp [slots, h]
  have s3 : ∀ n ∈ ooslots hi', n ∈ slots (.slc tag x lo' hi' mx') := fun n h => by simp [slots, h]
  have s4 : ∀ n ∈ ooslots mx', n ∈ slots (.slc tag x lo' hi' mx') := fun n h => by simp [slots, h]
  simp only [evOp] at hK
  split at hK
  · rename_i c e1
    split at hK
    · rename_i len hl
      split at hK
      · simp at hK
      · rename_i htag
        have htag : tagIs U tag L c = true := by simpa using htag
        split at hK
        · rename_i l h e2 e3
          have key : ∀ (K' : Option ρ) (lm : Nat), (cond (decide (0 ≤ l)) (cond (decide (l ≤ h)) (cond (decide (h ≤ (lm : Int))) K' none) none) none) = some r → 0 ≤ l ∧ l ≤ h ∧ h ≤ (lm : Int) ∧ K' = some r := by
            intro K' lm hk
            obtain ⟨a1, hk⟩ := cond_none hk
            obtain ⟨a2, hk⟩ := cond_none hk
            obtain ⟨a3, hk⟩ := cond_none hk
            exact ⟨of_decide_eq_true a1, of_decide_eq_true a2, of_decide_eq_true a3, hk⟩
          have plain : mx' = none → K (.c (cutOf c false l.toNat (h - l).toNat)) L (blkOf c) [] = some r → 0 ≤ l → l ≤ h → h ≤ ((limOf U L len c : Nat) : Int) → Res P U fr L (.slc tag x lo' hi' mx') o K r := by
            intro hm hK2 h0 h1 h2
            clear hK
            subst hm
            have hmn : mx = none := by cases mx with
              | none => rfl
              | some Y => simp [ofOpt] at hmx
            refine .read hK2 fun hh φ w a hA hs _ => ?_
            obtain ⟨A, cap, hv, hle, hhc, hr⟩ := cutOf_ok (full := false) (l := l.toNat) (hh := h.toNat) hl htag hA (ev_ok hx hs s1 e1) (by omega) (by omega) (by simp)
            refine ⟨.slice (if cap = l.toNat then A else A.map (·.add (l.toNat * U.esz tag))) (h.toNat - l.toNat) (cap - l.toNat), ?_, by rw [show (h - l).toNat = h.toNat - l.toNat by omega]; exact hr⟩
            have hrun := run_cut (P := P) hu hsz w A len cap lo hi a l h
              (by rcases bound_ok hlo hs s2 e2 with ⟨a1, _, a2⟩ | ⟨Y, y, k, a1, _, a2⟩
                  · exact .inl ⟨a1, a2⟩
                  · exact .inr ⟨Y, k, a1, a2⟩)
              (by rcases bound_ok hhi hs s3 e3 with ⟨a1, _, a2⟩ | ⟨Y, y, k, a1, _, a2⟩
                  · exact .inl ⟨a1, a2⟩
                  · exact .inr ⟨Y, k, a1, a2⟩) h0 h1 (by omega)
            simp only [execOp, ho, hv, hmn, Option.map_none, Sem.run_bind, hrun, Result.andThen_ok, Sem.run_pure]
          split at hK
          · obtain ⟨h0, h1, h2, hK⟩ := key _ _ hK
            exact plain rfl hK h0 h1 h2
          · rename_i hx' mx0
            split at hK
            · rename_i he
              subst he
              obtain ⟨h0, h1, h2, hK⟩ := key _ _ hK
              refine .read hK fun hh φ w a hA hs _ => ?_
              have hlim : len ≤ limOf U L len c := by
                unfold limOf; split
                · split
                  · split
                    · exact Nat.le_max_left _ _
                    · exact Nat.le_refl _
                  · exact Nat.le_refl _
                · exact Nat.le_refl _
              obtain ⟨A, cap, hv, hle, _, hr⟩ := cutOf_ok (full := true) (l := l.toNat) (hh := h.toNat) hl htag hA (ev_ok hx hs s1 e1) (by omega) (by omega) (fun _ => by omega)
              refine ⟨.slice (if h.toNat = l.toNat then A else A.map (·.add (l.toNat * U.esz tag))) (h.toNat - l.toNat) (h.toNat - l.toNat), ?_, by rw [show (h - l).toNat = h.toNat - l.toNat by omega]; exact hr⟩
              have e4 : bound fr len (some hx') = some h := e3
              rcases bound_ok hhi hs s3 e3 with ⟨_, a1, _⟩ | ⟨Y, y, k, a1, _, a2⟩
              · simp at a1
              · rcases bound_ok hmx hs s4 e4 with ⟨_, b1, _⟩ | ⟨Y', y', k', b1, _, b2⟩
                · simp at b1
                · have hrun := run_cut3 (P := P) hu hsz w A len cap lo Y Y' a l h k k'
                    (by rcases bound_ok hlo hs s2 e2 with ⟨a1, _, a2⟩ | ⟨Z, z, k, a1, _, a2⟩
                        · exact .inl ⟨a1, a2⟩
                        · exact .inr ⟨Z, k, a1, a2⟩) a2 b2 h0 h1 h2 hle
                  simp only [execOp, ho, hv, a1, b1, Option.map_some, Sem.run_bind, hrun, Result.andThen_ok, Sem.run_pure]
            · split at hK
              · rename_i m e4
                obtain ⟨q0, hK1⟩ := cond_none hK
                obtain ⟨q1, hK2⟩ := cond_none hK1
                obtain ⟨q2, hK3⟩ := cond_none hK2
                obtain ⟨q3, hK4⟩ := cond_none hK3
                clear hK hK1 hK2 hK3
                replace q0 := of_decide_eq_true q0
                replace q1 := of_decide_eq_true q1
                replace q2 := of_decide_eq_true q2
                replace q3 := of_decide_eq_true q3
                refine .read hK4 fun hh φ w a hA hs _ => ?_
                obtain ⟨A, cap, hv, hle, _, _⟩ := cutOf_ok (full := false) (l := 0) (hh := 0) hl htag hA (ev_ok hx hs s1 e1) (by omega) (by omega) (by simp)
                refine ⟨.slice (if m.toNat = l.toNat then A else A.map (·.add (l.toNat * U.esz tag))) (h.toNat - l.toNat) (m.toNat - l.toNat), ?_, rfl⟩
                rcases bound_ok hhi hs s3 e3 with ⟨_, a1, _⟩ | ⟨Y, y, k, a1, _, a2⟩
                · simp at a1
                · rcases bound_ok hmx hs s4 e4 with ⟨_, b1, _⟩ | ⟨Y', y', k', b1, _, b2⟩
                  · simp at b1
                  · have hrun := run_cut4 (P := P) hu hsz w A len cap lo Y Y' a l h m k k'
                      (by rcases bound_ok hlo hs s2 e2 with ⟨a1, _, a2⟩ | ⟨Z, z, k, a1, _, a2⟩
                          · exact .inl ⟨a1, a2⟩
                          · exact .inr ⟨Z, k, a1, a2⟩) a2 b2 q0 q1 q2 q3 hle
                    simp only [execOp, ho, hv, a1, b1, Option.map_some, Sem.run_bind, hrun, Result.andThen_ok, Sem.run_pure]
              · simp at hK
          · simp at hK
        · simp at hK
    · simp at hK
  · simp at hK

theorem run_cutS {t : Nat} (hu : P.underlying t = some .string) (w : World) (s : ByteArray) (X Y : Option Operand) (a : Act) (l h : Int)
    (hX : (X = none ∧ l = 0) ∨ ∃ Z k, X = some Z ∧ a.eval Z = .int k l) (hY : (Y = none ∧ h = s.size) ∨ ∃ Z k, Y = some Z ∧ a.eval Z = .int k h) (h0 : 0 ≤ l) (h1 : l ≤ h) (h2 : h ≤ s.size) :
    (Instr.sliceAt t (.string s) (X.map a.eval) (Y.map a.eval) none).run P w = .ok (.string (s.extract l.toNat h.toNat)) w := by
  have e2 : (h.toNat : Int) = h := by omega
  have e3 : 0 ≤ h := by omega
  rcases hX with ⟨rfl, rfl⟩ | ⟨Z, k, rfl, hZ⟩ <;> rcases hY with ⟨rfl, rfl⟩ | ⟨Z', k', rfl, hZ'⟩
  all_goals simp_all [Instr.sliceAt, run_und hu, Instr.slice, Instr.sliceBounds, run_sliceBound]
theorem ok_sls {X : Operand} {lo hi : Option Operand} {x : Opd} {lo' hi' : Option Opd} {t : Nat} {t1 : Option TypeId} (ho : o.op = .slice t X lo hi none) (hu : P.underlying t = some .string)
    (hx : ofOp P tagT t1 X = some x) (hlo : ofOpt P tagT lo = some lo') (hhi : ofOpt P tagT hi = some hi')
    (hK : evOp U fr L (.sls x lo' hi') K = some r) : Res P U fr L (.sls x lo' hi') o K r := by
  have s1 : ∀ n ∈ oslots x, n ∈ slots (.sls x lo' hi') := fun n h => by simp [slots, h]
  have s2 : ∀ n ∈ ooslots lo', n ∈ slots (.sls x lo' hi') := fun n h => by simp [slots, h]
  have s3 : ∀ n ∈ ooslots hi', n ∈ slots (.sls x lo' hi') := fun n h => by simp [slots, h]
  simp only [evOp] at hK
  split at hK
  · rename_i s e1
    split at hK
    · rename_i l h e2 e3
      replace hK := cond_none hK; obtain ⟨h0, hK⟩ := hK
      replace hK := cond_none hK; obtain ⟨h1, hK⟩ := hK
      replace hK := cond_none hK; obtain ⟨h2, hK⟩ := hK
      replace h0 := of_decide_eq_true h0
      replace h1 := of_decide_eq_true h1
      replace h2 := of_decide_eq_true h2
      refine .read hK fun hh φ w a hA hs _ => ⟨.string (s.extract l.toNat h.toNat), ?_, rfl⟩
      have hrun := run_cutS (P := P) hu w s lo hi a l h
        (by rcases bound_ok hlo hs s2 e2 with ⟨a1, _, a2⟩ | ⟨Y, y, k, a1, _, a2⟩
            · exact .inl ⟨a1, a2⟩
            · exact .inr ⟨Y, k, a1, a2⟩)
        (by rcases bound_ok hhi hs s3 e3 with ⟨a1, _, a2⟩ | ⟨Y, y, k, a1, _, a2⟩
            · exact .inl ⟨a1, a2⟩
            · exact .inr ⟨Y, k, a1, a2⟩) h0 h1 h2
      simp only [execOp, ho, relStr (ev_ok hx hs s1 e1), Option.map_none, Sem.run_bind, hrun, Result.andThen_ok, Sem.run_pure]
    · simp at hK
  · simp at hK

theorem evs_ok {fr : Fr} {a : Act} {φ : Phi} {h : Hp R} {w : World} {ts : List Nat} (hs : Sl U φ h w fr a ts) : ∀ {xs : List Opd} {Xs : List Operand} {us : List (Option TypeId)} {vs : List V},
    ofOps P tagT us Xs = some xs → (∀ n ∈ xs.flatMap oslots, n ∈ ts) → evs fr xs = some vs → All2 (RelV U φ h w) vs (Xs.map a.eval) := by
  intro xs
  induction xs with
  | nil =>
    intro Xs us vs hx _ hv
    cases Xs with
    | nil => simp [evs] at hv; subst hv; exact .nil
    | cons X Xs => simp [ofOps, Option.bind_eq_some_iff] at hx
  | cons x xs ih =>
    intro Xs us vs hx hsub hv
    cases Xs with
    | nil => simp [ofOps] at hx
    | cons X Xs =>
      simp only [ofOps, Option.bind_eq_some_iff, Option.map_eq_some_iff] at hx
      obtain ⟨x', h1, xs', h2, h3⟩ := hx
      simp at h3
      obtain ⟨rfl, rfl⟩ := h3
      simp only [evs] at hv
      split at hv
      · rename_i v vs' e1 e2
        simp at hv; subst hv
        exact (ih h2 (fun n hn => hsub n (by simp at hn ⊢; exact .inr hn)) e2).cons (ev_ok h1 hs (fun n hn => hsub n (by simp [hn])) e1)
      · simp at hv

theorem ok_mkfn {f : Nat} {first caps : Array Operand} {xs : List Opd} {us : List (Option TypeId)} (ho : o.op = .makeFunc (.func f) first caps) (hf : first.isEmpty = true) (hx : ofOps P tagT us caps.toList = some xs)
    (hK : evOp U fr L (.mkfn f xs) K = some r) : Res P U fr L (.mkfn f xs) o K r := by
  simp only [evOp] at hK
  split at hK
  · rename_i vs e1
    split at hK
    · rename_i bs hbs
      refine .read hK fun h φ w a hA hs _ => ?_
      have h1 := evs_ok hs hx (fun n h => h) e1
      have hf' : first = #[] := by simpa using hf
      refine ⟨.func (.func f) #[] (caps.map a.eval), by simp [execOp, ho, Instr.makeFunc, hf'], caps.toList.map a.eval, by congr 1; apply Array.ext'; simp, ?_⟩
      clear e1 hK hx
      generalize caps.toList.map a.eval = us at h1
      induction vs generalizing bs us with
      | nil =>
        simp at hbs; subst hbs
        obtain rfl := h1.inv_nil
        exact .nil
      | cons v vs ih =>
        obtain ⟨u, us', rfl, hr, hrest⟩ := h1.inv_cons
        simp only [List.foldr_cons] at hbs
        split at hbs
        · rename_i b bs' e
          simp at hbs; subst hbs
          exact (ih bs' e us' hrest).cons hr
        · simp at hbs
    · simp at hK
  · simp at hK

theorem rowOf_some {b g : Nat} {c : C} {row : R} (h : rowOf U L c = some row) (hc : c = .sl b g) : ∃ m, L[b]? = some ⟨.row row, g, m⟩ ∧ m ≠ 0 := by
  subst hc
  simp only [rowOf] at h
  split at h
  · rename_i r g' m hb
    split at h
    · simp at h
    · split at h
      · rename_i hm hg
        subst hg; simp at h; subst h
        exact ⟨m, hb, hm⟩
      · simp at h
  · simp at h
theorem rowOf_sc {b g lo n : Nat} {row : R} (h : rowOf U L (.sc b g lo n) = some row) : ∃ r m, L[b]? = some ⟨.row r, g, m⟩ ∧ m ≠ 0 ∧ row = U.cut r lo n := by
  simp only [rowOf] at h
  split at h
  · rename_i r g' m hb
    split at h
    · simp at h
    · split at h
      · rename_i hm hg
        subst hg; simp at h; subst h
        exact ⟨r, m, hb, hm, rfl⟩
      · simp at h
  · simp at h

theorem flatten_len {α : Type} {e : Nat} : ∀ (ls : List (List α)), (∀ x ∈ ls, x.length = e) → ls.flatten.length = ls.length * e := by
  intro ls
  induction ls with
  | nil => simp
  | cons x xs ih => intro h; simp [ih (fun y hy => h y (by simp [hy])), h x (by simp), Nat.succ_mul, Nat.add_comm]
theorem flatten_drop {α : Type} {e : Nat} : ∀ (n : Nat) (ls : List (List α)), (∀ x ∈ ls, x.length = e) → (ls.drop n).flatten = ls.flatten.drop (n * e) := by
  intro n
  induction n with
  | zero => simp
  | succ n ih =>
    intro ls h
    cases ls with
    | nil => simp
    | cons x xs =>
      have hx : x.length = e := h x (by simp)
      simp only [List.drop_succ_cons, List.flatten_cons]
      rw [ih xs (fun y hy => h y (by simp [hy])), Nat.succ_mul, Nat.add_comm, ← hx, ← List.drop_drop, List.drop_left]
theorem flatten_take {α : Type} {e : Nat} : ∀ (n : Nat) (ls : List (List α)), (∀ x ∈ ls, x.length = e) → (ls.take n).flatten = ls.flatten.take (n * e) := by
  intro n
  induction n with
  | zero => simp
  | succ n ih =>
    intro ls h
    cases ls with
    | nil => simp
    | cons x xs =>
      have hx : x.length = e := h x (by simp)
      simp only [List.take_succ_cons, List.flatten_cons]
      rw [ih xs (fun y hy => h y (by simp [hy])), Nat.succ_mul, Nat.add_comm, ← hx, List.take_length_add_append]
theorem flat_len (row : R) : (flat U (.row row)).length = U.len row * U.esz (U.tag row) := by
  rw [U.len_eq]; exact flatten_len _ (U.tag_esz row)
theorem flat_cut (row : R) (lo n : Nat) : flat U (.row (U.cut row lo n)) = ((flat U (.row row)).drop (lo * U.esz (U.tag row))).take (n * U.esz (U.tag row)) := by
  simp only [flat]
  rw [(U.cut_eq row lo n).2, flatten_take n _ (fun x hx => U.tag_esz row x (List.mem_of_mem_drop hx)), flatten_drop lo _ (U.tag_esz row)]
theorem len_cut (row : R) (lo n : Nat) (h : lo + n ≤ U.len row) : U.len (U.cut row lo n) = n := by
  rw [U.len_eq, (U.cut_eq row lo n).2, List.length_take, List.length_drop, ← U.len_eq]; omega

/-- What a slice shows lies where it points. -/
theorem slice_cells {φ : Phi} {h : Hp R} {w : World} {c : C} {v : Value} {row : R} (hs : Sim U φ h w) (hr : RelC U φ h w c v) (hrow : rowOf U L c = some row) (hA : ∀ b ∈ blkOf c, h b = L[b]?) :
    ∃ A cap, v = .slice A (U.len row) cap ∧ U.len row ≤ cap ∧ (U.len row = 0 ∨ ∃ ad, A = some ad ∧ ∀ (i : Nat) cc, (flat U (.row row))[i]? = some cc → ∃ u, w.cell? (ad.add i) = some u ∧ RelC U φ h w cc u) := by
  have main : ∀ (b g m lo n : Nat) (r : R) (A : Option Addr), h b = some ⟨.row r, g, m⟩ → m ≠ 0 → lo + n ≤ U.len r → (n = 0 ∨ ∃ a, φ b = some a ∧ A = some (a.add (lo * U.esz (U.tag r)))) →
      (n = 0 ∨ ∃ ad, A = some ad ∧ ∀ (i : Nat) cc, (flat U (.row (U.cut r lo n)))[i]? = some cc → ∃ u, w.cell? (ad.add i) = some u ∧ RelC U φ h w cc u) := by
    intro b g m lo n r A hb hm hle hcase
    rcases hcase with h0 | ⟨a, ha, rfl⟩
    · exact .inl h0
    · rcases hs.cells hb hm with ⟨hnil, _⟩ | ⟨a', ha', hcells⟩
      · by_cases h0 : n = 0
        · exact .inl h0
        · refine .inr ⟨_, rfl, fun i cc hi => ?_⟩
          rw [flat_cut, hnil] at hi
          simp at hi
      · rw [ha] at ha'; simp at ha'; subst ha'
        refine .inr ⟨_, rfl, fun i cc hi => ?_⟩
        rw [flat_cut, List.getElem?_take] at hi
        split at hi
        · rw [List.getElem?_drop] at hi
          obtain ⟨u, hu, hr⟩ := hcells _ cc hi
          exact ⟨u, by rw [add_add]; exact hu, hr⟩
        · simp at hi
  cases c <;> simp only [rowOf] at hrow
  case sl b g =>
    obtain ⟨m, hb, hm⟩ := rowOf_some (U := U) (c := .sl b g) (by simpa only [rowOf] using hrow) rfl
    have hb' : h b = some ⟨.row row, g, m⟩ := by rw [hA b (by simp [blkOf]), hb]
    obtain ⟨_, A, cap, rfl, hle, _, hcap⟩ := rel_sl hr hb' hm
    refine ⟨A, cap, rfl, hle, ?_⟩
    have := main b g m 0 (U.len row) row A hb' hm (by omega) (by
      rcases hcap with (h0 | ⟨h0, _⟩) | ⟨a, ha, hA', _⟩
      · exact .inl (by omega)
      · exact .inl h0
      · exact .inr ⟨a, ha, hA'⟩)
    have e : flat U (.row (U.cut row 0 (U.len row))) = flat U (.row row) := by
      rw [flat_cut, Nat.zero_mul, List.drop_zero, List.take_of_length_le (by rw [flat_len]; exact Nat.le_refl _)]
    rw [e] at this
    exact this
  case sc b g lo n =>
    obtain ⟨r0, m, hb, hm, rfl⟩ := rowOf_sc (by simpa only [rowOf] using hrow)
    have hb' : h b = some ⟨.row r0, g, m⟩ := by rw [hA b (by simp [blkOf]), hb]
    obtain ⟨hin, A, cap, rfl, hle, _, hcap⟩ := rel_sc hr hb' hm
    rw [len_cut r0 lo n hin]
    exact ⟨A, cap, rfl, hle, main b g m lo n r0 A hb' hm hin (by
      rcases hcap with (h0 | ⟨h0, _⟩) | ⟨a, ha, hA', _⟩
      · exact .inl (by omega)
      · exact .inl h0
      · exact .inr ⟨a, ha, hA'⟩)⟩
  case sf b g lo n =>
    obtain ⟨r0, m, hb, hm, rfl⟩ := rowOf_sc (lo := lo) (n := n) (by simpa only [rowOf] using hrow)
    have hb' : h b = some ⟨.row r0, g, m⟩ := by rw [hA b (by simp [blkOf]), hb]
    obtain ⟨hin, A, rfl, hcap⟩ := rel_sf (w := w) hr hb' hm
    rw [len_cut r0 lo n hin]
    exact ⟨A, n, rfl, Nat.le_refl _, main b g m lo n r0 A hb' hm hin hcap⟩
  all_goals simp at hrow

theorem run_b2s {φ : Phi} {h : Hp R} {w : World} {row : R} {s : ByteArray} {src dst e : Nat} (hu : P.underlying src = some (.slice e)) (he : P.underlying e = some (.int .u8)) (hd : P.underlying dst = some .string) (hs : U.toStr row = some s)
    {A : Option Addr} {cap : Nat} (hc : U.len row = 0 ∨ ∃ ad, A = some ad ∧ ∀ (i : Nat) cc, (flat U (.row row))[i]? = some cc → ∃ u, w.cell? (ad.add i) = some u ∧ RelC U φ h w cc u) :
    (convert src dst (.slice A (U.len row) cap)).run P w = .ok (.string s) w := by
  have hcells := U.toStr_eq row s hs
  have hlen : U.len row = s.data.toList.length := by rw [U.len_eq, hcells, List.length_map]
  have hflat : flat U (.row row) = s.data.toList.map fun b => C.int .u8 b.toNat := by
    simp only [flat, hcells]
    generalize s.data.toList = l
    induction l with
    | nil => rfl
    | cons x xs ih => simp [ih]
  rw [run_convert_bytes_string w src dst e A _ cap hu he hd]
  rcases hc with h0 | ⟨ad, rfl, hcell⟩
  · have hs0 : s.data.toList = [] := List.eq_nil_of_length_eq_zero (by omega)
    have hse : s = ByteArray.empty := by
      cases s with
      | mk d => cases d with
        | mk l => simp at hs0; subst hs0; rfl
    subst hse
    rw [h0]
    cases A with
    | none => simp [Conv.bytesToString]
    | some a => simp [Conv.bytesToString, loadCells, loadCellsFrom]
  · have hl : (loadCells ad (U.len row)).run P w = .ok ((s.data.toList.map fun b => (b.toNat : Int)).map (Value.int .u8)).toArray w := by
      have := run_loadCells_list (P := P) w ad ((s.data.toList.map fun b => (b.toNat : Int)).map (Value.int .u8)) (fun j v hj => by
        rw [List.map_map, List.getElem?_map] at hj
        obtain ⟨x, hx, rfl⟩ := Option.map_eq_some_iff.1 hj
        obtain ⟨u, hu, hr⟩ := hcell j (.int .u8 x.toNat) (by rw [hflat, List.getElem?_map, hx]; rfl)
        rw [hu]
        have : u = .int .u8 x.toNat := hr
        rw [this]
        rfl)
      rw [List.length_map, List.length_map, ← hlen] at this
      exact this
    rw [run_bytesToString w ad _ cap _ hl, foldl_push_bytes]
    congr 2
    have : (s.data.toList.map fun b => (b.toNat : Int)).map (fun n => UInt8.ofNat n.toNat) = s.data.toList := by
      rw [List.map_map]
      conv => rhs; rw [← List.map_id s.data.toList]
      apply List.map_congr_left
      intro x _
      simp
    rw [this]
    cases s with
    | mk d => cases d with
      | mk l => simp [ByteArray.empty, ByteArray.emptyWithCapacity]; rfl

theorem ok_b2s {X : Operand} {x : Opd} {src dst e : Nat} {tt : Option TypeId} (ho : o.op = .convert src dst X) (hu : P.underlying src = some (.slice e)) (he : P.underlying e = some (.int .u8)) (hd : P.underlying dst = some .string) (hx : ofOp P tagT tt X = some x)
    (hK : evOp U fr L (.b2s x) K = some r) : Res P U fr L (.b2s x) o K r := by
  simp only [evOp] at hK
  have main : ∀ (c : C) (s : ByteArray), ev fr x = some (.c c) → (rowOf U L c).bind U.toStr = some s → K (.c (.str s)) L (blkOf c) [] = some r → Res P U fr L (.b2s x) o K r := by
    intro c s e1 hs hk
    obtain ⟨row, hrow, hs⟩ := Option.bind_eq_some_iff.1 hs
    refine .read hk fun h φ w a hA hsl hsim => ⟨.string s, ?_, rfl⟩
    obtain ⟨A, cap, hv, _, hc⟩ := slice_cells hsim (ev_ok hx hsl (fun _ h => h) e1) hrow hA
    have := run_b2s (P := P) hu he hd hs (cap := cap) hc
    simp [execOp, ho, hv, this]
  split at hK
  · rename_i b g e1
    split at hK
    · rename_i s hs
      exact main _ s e1 hs hK
    · simp at hK
  · rename_i b g lo n e1
    split at hK
    · rename_i s hs
      exact main _ s e1 hs hK
    · simp at hK
  · rename_i tg e1
    refine .read hK fun h φ w a hA hsl hsim => ⟨.string ⟨#[]⟩, ?_, rfl⟩
    have hv : a.eval X = .slice none 0 0 := ev_ok hx hsl (fun _ h => h) e1
    have := run_convert_bytes_nil (P := P) w src e hu he 0 0 dst hd
    simp [execOp, ho, hv, this]
    rfl
  · simp at hK
end
end Go.Eng
/- The engine, part 10: operations that make memory. -/
namespace Go.Eng
section
variable {R : Type} {U : RowU R} {P : Program} {tagT : TypeId → Option Nat} {ρ : Type}
variable {fr : Fr} {L : Heap R} {o : Oper} {K : KV R ρ} {r : ρ}

/-- An operation that makes one block. -/
theorem Res.new {op : SOp} {v : V} {k : BK R} (hK : K v (L ++ [⟨k, 0, 2⟩]) [L.length] [L.length] = some r)
    (hrun : ∀ (h : Hp R) (φ : Phi) (w : World) (a : Act), Sl U φ h w fr a (slots op) → Sim U φ h w → ∃ val w1 cs t lo hi, (execOp a.eval o).run P w = .ok (.value val) w1 ∧ w1.heap = w.heap.push (.cells cs t (lo, hi)) ∧
      w1.os = w.os ∧ w1.tape = w.tape ∧ w1.output = w.output ∧ (hi = lo ∨ cs.size ≤ lo) ∧ (∀ (i : Nat) c, (flat U k)[i]? = some c → ∃ u, cs[i]? = some u ∧ RelC U φ h w c u) ∧
      (∀ (φ' : Phi) (h' : Hp R), φ' L.length = some ⟨w.heap.size, 0, none⟩ → h' L.length = some ⟨k, 0, 2⟩ → RelV U φ' h' w1 v val)) :
    Res P U fr L op o K r :=
  ⟨v, _, _, _, hK, fun _ hb => hb, fun b hb => by
      have : b ≠ L.length := by simpa using hb
      rcases Nat.lt_or_ge b L.length with h | h
      · rw [List.getElem?_append_left h]
      · rw [List.getElem?_append_right h, List.getElem?_eq_none h, List.getElem?_eq_none]
        simp; omega, by simp, fun h φ w a hA hs hsim => by
    obtain ⟨val, w1, cs, t, lo, hi, h1, h2, h3, h4, h5, h6, h7, h8⟩ := hrun h φ w a hs hsim
    have hn : h L.length = none := by rw [hA _ (by simp)]; exact List.getElem?_eq_none (Nat.le_refl _)
    rw [upd_append]
    exact .val h1 (h8 _ _ (phiSet_self ..) (hpSet_self ..)) (.newBlk hsim hn k cs t lo hi h6 h7 h2 h3 h4 h5)⟩

theorem push_world (w : World) (o : Obj) : ({ w with heap := w.heap.push o } : World).heap = w.heap.push o := rfl

theorem cells_of_one {v : Value} (h : oneCell v) : v.cells = #[v] := by
  unfold oneCell at h
  cases v <;> simp [Value.oneCell'] at h <;> rfl

theorem ok_box {X : Operand} {x : Opd} {t : Nat} {tt : Option TypeId} (ho : o.op = .box t X) (hx : ofOp P tagT tt X = some x)
    (hK : evOp U fr L (.box x) K = some r) : Res P U fr L (.box x) o K r := by
  simp only [evOp] at hK
  split at hK
  · rename_i c e1
    refine .new hK fun h φ w a hs hsim => ?_
    have hr := ev_ok hx hs (fun _ h => h) e1
    refine ⟨.pointer (some ⟨w.heap.size, 0, none⟩), { w with heap := w.heap.push (.cells (a.eval X).cells t) }, (a.eval X).cells, t, 0, 0, ?_, rfl, rfl, rfl, rfl, .inl rfl, fun i c' hi => ?_, fun φ' h' hφ hh => ?_⟩
    · simp [execOp, ho, Instr.box, newVar, newRow]
    · rw [cells_of_one (RelC.one U hr)]
      cases i with
      | zero => simp [flat] at hi; subst hi; exact ⟨a.eval X, by simp, hr⟩
      | succ i => simp [flat] at hi
    · exact ⟨_, _, _, hh, by simp, _, hφ, by rw [add_zero']⟩
  · rename_i cs e1
    refine .new hK fun h φ w a hs hsim => ?_
    obtain ⟨us, hu, ha⟩ := ev_ok hx hs (fun _ h => h) e1
    refine ⟨.pointer (some ⟨w.heap.size, 0, none⟩), { w with heap := w.heap.push (.cells us.toArray t) }, us.toArray, t, 0, 0, ?_, rfl, rfl, rfl, rfl, .inl rfl, fun i c' hi => ?_, fun φ' h' hφ hh => ?_⟩
    · simp [execOp, ho, Instr.box, newVar, newRow, hu, Value.cells]
    · obtain ⟨u, h1, h2⟩ := ha.get hi
      exact ⟨u, by simpa using h1, h2⟩
    · exact ⟨_, _, _, hh, by simp, _, hφ, by rw [add_zero']⟩
  · simp at hK

theorem sameZ_ok {φ : Phi} {h : Hp R} {w : World} (cs : List C) (vs : List Value) : sameZ cs vs = true → All2 (RelC U φ h w) cs vs := by
  fun_induction sameZ cs vs with
  | case1 => exact fun _ => .nil
  | case2 k n cs k' n' vs ih =>
    intro hz; simp at hz
    obtain ⟨⟨rfl, rfl⟩, hz⟩ := hz
    exact (ih hz).cons rfl
  | case3 b cs b' vs ih =>
    intro hz; simp at hz
    obtain ⟨rfl, hz⟩ := hz
    exact (ih hz).cons rfl
  | case4 b cs b' vs ih =>
    intro hz; simp at hz
    obtain ⟨hb, hz⟩ := hz
    refine (ih hz).cons ?_
    show Value.string b' = .string b
    congr 1
    cases b with
    | mk d => cases d with
      | mk l => cases b' with
        | mk d' => cases d' with
          | mk l' => simp at hb; subst hb; rfl
  | case5 cs vs ih => exact fun hz => (ih hz).cons rfl
  | case6 t cs vs ih => exact fun hz => (ih hz).cons rfl
  | case7 => simp

theorem zeroT_some {t : Nat} {z : List C} (h : zeroT P tagT t = some z) : ∃ i v, P.info? t = some i ∧ i.zero = some v ∧ sameZ z v.cells.toList = true := by
  unfold zeroT at h
  split at h
  · rename_i z' v h1 h2
    split at h
    · rename_i hz
      simp at h; subst h
      obtain ⟨i, hi, hv⟩ := Option.bind_eq_some_iff.1 h2
      exact ⟨i, v, hi, hv, hz⟩
    · simp at h
  · simp at h
theorem run_zero {t : Nat} {i : TypeInfo} {v : Value} (hi : P.info? t = some i) (hz : i.zero = some v) (w : World) : (zeroValue t).run P w = .ok v w := by
  simp [zeroValue, typeInfo, hi, hz]

theorem ok_alloc {t : Nat} {z : List C} (ho : o.op = .alloc t) (hz : zeroT P tagT t = some z) (hK : evOp U fr L (.alloc z) K = some r) : Res P U fr L (.alloc z) o K r := by
  simp only [evOp] at hK
  obtain ⟨i, v, hi, hv, hs⟩ := zeroT_some hz
  refine .new hK fun h φ w a _ hsim => ?_
  have ha := sameZ_ok (U := U) (φ := φ) (h := h) (w := w) _ _ hs
  refine ⟨.pointer (some ⟨w.heap.size, 0, none⟩), { w with heap := w.heap.push (.cells v.cells t) }, v.cells, t, 0, 0, ?_, rfl, rfl, rfl, rfl, .inl rfl, fun i c' hi => ?_, fun φ' h' hφ hh => ?_⟩
  · simp [execOp, ho, Instr.alloc, run_zero hi hv, newVar, newRow]
  · obtain ⟨u, h1, h2⟩ := ha.get hi
    exact ⟨u, by simpa using h1, h2⟩
  · exact ⟨_, _, _, hh, by simp, _, hφ, by rw [add_zero']⟩

/-! ### parts laid into a whole -/
theorem foldl_place : ∀ (vs : List Value) (k off : Nat) (cells : Array Value), off + k + vs.length ≤ cells.size →
    ((vs.zipIdx k).foldl (fun (cs : Array Value) (p : Value × Nat) => cs.setIfInBounds (off + p.2) p.1) cells).toList = cells.toList.take (off + k) ++ vs ++ cells.toList.drop (off + k + vs.length) := by
  intro vs
  induction vs with
  | nil => intro k off cells _; simp
  | cons v vs ih =>
    intro k off cells h
    simp only [List.length_cons] at h
    simp only [List.zipIdx_cons, List.foldl_cons]
    rw [ih (k + 1) off _ (by simp; omega)]
    simp only [Array.toList_setIfInBounds]
    have hlt : off + k < cells.toList.length := by simp; omega
    have e1 : (cells.toList.set (off + k) v).take (off + (k + 1)) = cells.toList.take (off + k) ++ [v] := by
      rw [List.set_eq_take_append_cons_drop, if_pos hlt, List.take_append]
      simp only [List.length_take, Nat.min_eq_left (Nat.le_of_lt hlt)]
      rw [List.take_of_length_le (by simp; omega), show off + (k + 1) - (off + k) = 1 by omega]
      simp
    have e2 : (cells.toList.set (off + k) v).drop (off + (k + 1) + vs.length) = cells.toList.drop (off + k + (v :: vs).length) := by
      rw [List.drop_set_of_lt (by omega)]
      simp only [List.length_cons]
      congr 1; omega
    rw [e1, e2]
    simp
theorem foldl_place0 (vs : Array Value) (off : Nat) (cells : Array Value) (h : off + vs.size ≤ cells.size) :
    (vs.zipIdx.foldl (fun (cs : Array Value) (p : Value × Nat) => cs.setIfInBounds (off + p.2) p.1) cells).toList = cells.toList.take off ++ vs.toList ++ cells.toList.drop (off + vs.size) := by
  have := foldl_place vs.toList 0 off cells (by simpa using h)
  rw [← Array.foldl_toList]
  simpa using this

theorem cells_rel {φ : Phi} {h : Hp R} {w : World} {v : V} {u : Value} (hr : RelV U φ h w v u) (hv : ∃ c, v = .c c ∨ ∃ cs, v = .a cs) : All2 (RelC U φ h w) v.cells u.cells.toList := by
  obtain ⟨c, rfl | ⟨cs, rfl⟩⟩ := hv
  · have h1 : RelC U φ h w c u := hr
    rw [cells_of_one (RelC.one U h1)]
    exact All2.nil.cons h1
  · obtain ⟨us, rfl, ha⟩ := hr
    exact ha
end
end Go.Eng
/- The engine, part 11: structs and rows that are laid. -/
namespace Go.Eng
section
variable {R : Type} {U : RowU R} {P : Program} {tagT : TypeId → Option Nat} {ρ : Type}
variable {fr : Fr} {L : Heap R} {o : Oper} {K : KV R ρ} {r : ρ}

theorem mapM_get {α β : Type} {f : α → Option β} : ∀ {xs : List α} {ys : List β}, xs.mapM f = some ys → ∀ (i : Nat) x, xs[i]? = some x → ∃ y, f x = some y ∧ ys[i]? = some y := by
  intro xs
  induction xs with
  | nil => intro ys _ i x h; simp at h
  | cons a as ih =>
    intro ys h i x hx
    simp only [List.mapM_cons, Option.bind_eq_bind, Option.pure_def, Option.bind_eq_some_iff, Option.some.injEq] at h
    obtain ⟨b, hb, bs, hbs, rfl⟩ := h
    cases i with
    | zero => simp at hx; subst hx; exact ⟨b, hb, rfl⟩
    | succ i => simpa using ih hbs i x (by simpa using hx)

theorem val_cells {φ : Phi} {h : Hp R} {w : World} {v : V} {u : Value} {n : Nat} (hr : RelV U φ h w v u) (hn : v.cells.length = n) (h0 : n ≠ 0) : All2 (RelC U φ h w) v.cells u.cells.toList := by
  refine cells_rel hr ?_
  cases v with
  | c c => exact ⟨c, .inl rfl⟩
  | a cs => exact ⟨.j, .inr ⟨cs, rfl⟩⟩
  | t vs => simp [V.cells] at hn; omega
  | j => simp [V.cells] at hn; omega

theorem fillP_ok {t : Nat} {fs : Array Field} {places : List (Nat × Nat)} (hu : P.underlying t = some (.struct fs)) (hpl : fs.toList.mapM (fun f => (P.info? f.type).map fun i => (f.offset, i.size)) = some places) {φ : Phi} {h : Hp R} {w : World} {a : Act} {ts : List Nat} (hs : Sl U φ h w fr a ts) :
    ∀ (pts : List (Nat × Operand)) (ps : List (Nat × Nat × Opd)) (z cs : List C) (cells : Array Value), parts P tagT t pts = some ps → (∀ p ∈ ps, ∀ n ∈ oslots p.2.2, n ∈ ts) → fillP fr z ps = some cs → All2 (RelC U φ h w) z cells.toList →
      ∃ cells', Instr.fill (fun x => places[x]?) cells (pts.map fun (i, x) => (i, a.eval x)) = some cells' ∧ All2 (RelC U φ h w) cs cells'.toList := by
  intro pts
  induction pts with
  | nil =>
    intro ps z cs cells hp _ hf hz
    simp [parts] at hp; subst hp
    simp [fillP] at hf; subst hf
    exact ⟨cells, rfl, hz⟩
  | cons p pts ih =>
    obtain ⟨i, x⟩ := p
    intro ps z cs cells hp hsub hf hz
    simp only [parts, Option.bind_eq_some_iff, Option.map_eq_some_iff] at hp
    obtain ⟨⟨off, ft, n⟩, hft, y, hy, ps', hps, rfl⟩ := hp
    simp only [fillP] at hf
    split at hf
    · rename_i v hv
      split at hf
      · rename_i hc
        obtain ⟨hvl, hle⟩ := hc
        obtain ⟨fs', fd, hu', hfd, hoff, hty, hsz, hn0⟩ := fieldT_some hft
        rw [hu] at hu'; simp at hu'; subst hu'
        have hall := val_cells (ev_ok hy hs (hsub _ (List.mem_cons_self ..)) hv) hvl hn0
        obtain ⟨pl, hpl1, hpl2⟩ := mapM_get hpl i fd (by simpa using hfd)
        obtain ⟨inf, hinf, rfl⟩ := Option.map_eq_some_iff.1 hpl1
        have hszn : inf.size = n := by
          unfold szT at hsz
          rw [hty] at hinf
          rw [hinf] at hsz
          simpa using hsz
        have hvs : (a.eval x).cells.size = n := by have := hall.1; simp at this; omega
        have hzl : cells.size = z.length := by have := hz.1; simp at this; omega
        have hpl3 := foldl_place0 (a.eval x).cells fd.offset cells (by omega)
        obtain ⟨cells', h1, h2⟩ := ih ps' _ cs ((a.eval x).cells.zipIdx.foldl (fun (cs : Array Value) (p : Value × Nat) => cs.setIfInBounds (fd.offset + p.2) p.1) cells) hps (fun p hp => hsub p (by simp [hp])) hf (by
          rw [hpl3, ← hoff, hvs]
          exact ((hz.take _).append hall).append (hz.drop _))
        refine ⟨cells', ?_, h2⟩
        simp only [List.map_cons, Instr.fill, hpl2]
        rw [if_neg (by simp; omega)]
        exact h1
      · simp at hf
    · simp at hf

theorem ok_build {t : Nat} {fs : Array Field} {pts : Array (Nat × Operand)} {ps : List (Nat × Nat × Opd)} {z : List C} {places : List (Nat × Nat)} (ho : o.op = .build t pts) (hu : P.underlying t = some (.struct fs))
    (hpl : fs.toList.mapM (fun f => (P.info? f.type).map fun i => (f.offset, i.size)) = some places) (hz : zeroT P tagT t = some z) (hp : parts P tagT t pts.toList = some ps)
    (hK : evOp U fr L (.build z ps) K = some r) : Res P U fr L (.build z ps) o K r := by
  simp only [evOp] at hK
  split at hK
  · rename_i cs hf
    obtain ⟨i, zv, hi, hv, hsz⟩ := zeroT_some hz
    refine .read hK fun h φ w a _ hs hsim => ?_
    obtain ⟨cells', h1, h2⟩ := fillP_ok hu hpl hs pts.toList ps z cs zv.cells hp (fun p hp n hn => by simp [slots]; exact ⟨_, _, _, hp, hn⟩) hf (sameZ_ok _ _ hsz)
    refine ⟨.agg cells', ?_, cells'.toList, by simp, h2⟩
    have hb : P.built t (pts.map fun (i, x) => (i, a.eval x)).toList = some cells' := by
      simp only [Program.built, hi, hu, hv, hpl, Array.toList_map]
      simpa using h1
    have := run_build w t _ cells' hb
    simp [execOp, ho, this]
  · simp at hK

theorem newSl {φ' : Phi} {h' : Hp R} {w w1 : World} {b n cap : Nat} {row : R} {cs : Array Value} {t : Nat} {lh : Nat × Nat} (hw : w1.heap = w.heap.push (.cells cs t lh)) (hφ : φ' b = some ⟨w.heap.size, 0, none⟩) (hh : h' b = some ⟨.row row, 0, 2⟩)
    (hn : U.len row = n) (hc : n ≤ cap) (hsz : cap * U.esz (U.tag row) ≤ cs.size) : RelV U φ' h' w1 (.c (.sl b 0)) (.slice (some ⟨w.heap.size, 0, none⟩) n cap) := by
  subst hn
  refine ⟨rfl, _, hh, Nat.le_refl _, fun _ _ r' hr' => ?_⟩
  simp at hr'; subst hr'
  refine ⟨by omega, _, cap, rfl, hc, fun _ => by omega, .inr ⟨_, hφ, by simp [Addr.add], fun _ => ⟨cs, t, lh, by rw [hw]; simp, ?_⟩⟩⟩
  simp; exact hsz

theorem flatten_set {α : Type} {e : Nat} (es : List (List α)) (hall : ∀ x ∈ es, x.length = e) {i : Nat} (hi : i < es.length) (y : List α) : (es.set i y).flatten = es.flatten.take (i * e) ++ y ++ es.flatten.drop (i * e + e) := by
  rw [List.set_eq_take_append_cons_drop, if_pos hi]
  simp only [List.flatten_append, List.flatten_cons]
  rw [flatten_take i es hall, flatten_drop (i + 1) es hall, Nat.succ_mul, List.append_assoc]

theorem fillS_ok {e0 e : Nat} (h0 : e ≠ 0) {φ : Phi} {h : Hp R} {w : World} {a : Act} {ts : List Nat} (hs : Sl U φ h w fr a ts) :
    ∀ (pts : List (Nat × Operand)) (ps : List (Nat × Opd)) (es es' : List (List C)) (cells : Array Value), partsS P tagT e0 pts = some ps → (∀ p ∈ ps, ∀ n ∈ oslots p.2, n ∈ ts) → fillS fr e es ps = some es' → (∀ x ∈ es, x.length = e) → All2 (RelC U φ h w) es.flatten cells.toList →
      ∃ cells', Instr.fill (fun i => some (i * e, e)) cells (pts.map fun (i, x) => (i, a.eval x)) = some cells' ∧ All2 (RelC U φ h w) es'.flatten cells'.toList := by
  intro pts
  induction pts with
  | nil =>
    intro ps es es' cells hp _ hf _ hz
    simp [partsS] at hp; subst hp
    simp [fillS] at hf; subst hf
    exact ⟨cells, rfl, hz⟩
  | cons p pts ih =>
    obtain ⟨i, x⟩ := p
    intro ps es es' cells hp hsub hf hall hz
    simp only [partsS, Option.bind_eq_some_iff, Option.map_eq_some_iff] at hp
    obtain ⟨y, hy, ps', hps, rfl⟩ := hp
    simp only [fillS] at hf
    split at hf
    · rename_i v hv
      split at hf
      · rename_i hc
        obtain ⟨hvl, hi⟩ := hc
        have hal := val_cells (ev_ok hy hs (hsub _ (List.mem_cons_self ..)) hv) hvl h0
        have hvs : (a.eval x).cells.size = e := by have := hal.1; simp at this; omega
        have hzl : cells.size = es.length * e := by have := hz.1; rw [flatten_len es hall] at this; simp at this; omega
        have hle : i * e + e ≤ cells.size := by
          rw [hzl, ← Nat.succ_mul]; exact Nat.mul_le_mul_right e hi
        have hpl3 := foldl_place0 (a.eval x).cells (i * e) cells (by omega)
        obtain ⟨cells', h1, h2⟩ := ih ps' (es.set i v.cells) es' ((a.eval x).cells.zipIdx.foldl (fun (cs : Array Value) (p : Value × Nat) => cs.setIfInBounds (i * e + p.2) p.1) cells) hps (fun p hp => hsub p (by simp [hp])) hf
          (fun x hx => by
            rcases List.mem_or_eq_of_mem_set hx with hx | rfl
            · exact hall x hx
            · exact hvl) (by
          rw [hpl3, flatten_set es hall hi, hvs]
          exact ((hz.take _).append hal).append (hz.drop _))
        refine ⟨cells', ?_, h2⟩
        simp only [List.map_cons, Instr.fill]
        rw [if_neg (by simp; omega)]
        exact h1
      · simp at hf
    · simp at hf

theorem replicate_get {α : Type} {e n k : Nat} {z : List α} (hz : z.length = e) (hk : k < n * e) : (List.replicate n z).flatten[k]? = z[k % e]? := by
  have he : 0 < e := by
    rcases Nat.eq_zero_or_pos e with h | h
    · subst h; simp at hk
    · exact h
  have := flatten_get (e := e) (List.replicate n z) (fun x hx => by rw [List.eq_of_mem_replicate hx, hz]) (k / e) (k % e) z (by
    rw [List.getElem?_replicate, if_pos (Nat.div_lt_of_lt_mul (by rw [Nat.mul_comm]; exact hk))]) (Nat.mod_lt _ he)
  rw [Nat.div_add_mod'] at this
  exact this
theorem made_rel {φ : Phi} {h : Hp R} {w : World} {z : List C} {cells : Array Value} {n e : Nat} (hz : All2 (RelC U φ h w) z cells.toList) (he : z.length = e) : All2 (RelC U φ h w) (List.replicate n z).flatten (madeCells cells (n * e)).toList := by
  have hsz : cells.size = e := by have := hz.1; simp at this; omega
  refine ⟨?_, fun k x y hx hy => ?_⟩
  · rw [flatten_len (e := e) _ (fun x hx => by rw [List.eq_of_mem_replicate hx, he])]
    simp [size_madeCells]
  · have hk : k < n * e := by
      have := (List.getElem?_eq_some_iff.1 hy).1
      simpa [size_madeCells] using this
    have he0 : 0 < e := by
      rcases Nat.eq_zero_or_pos e with h | h
      · subst h; simp at hk
      · exact h
    rw [replicate_get he hk] at hx
    have hm : k % e < cells.size := by rw [hsz]; exact Nat.mod_lt _ he0
    have : y = cells[k % e] := by
      simp [madeCells, hsz] at hy
      obtain ⟨k', hk', hy⟩ := hy
      rw [List.getElem?_eq_some_iff] at hk'
      obtain ⟨_, hk'⟩ := hk'
      simp at hk'; subst hk'
      rw [← hy, getElem!_pos cells (k % e) hm]
    subst this
    exact hz.2 (k % e) x _ hx (by simp [hm])

theorem ok_bsl (hT : TagOk P U tagT) {t n e g : Nat} {pts : Array (Nat × Operand)} {ps : List (Nat × Opd)} {z : List C} (ho : o.op = .buildSlice t n pts) (hu : P.underlying t = some (.slice e)) (hg : tagT e = some g)
    (hz : zeroT P tagT e = some z) (hp : partsS P tagT e pts.toList = some ps) (hK : evOp U fr L (.bsl g n z ps) K = some r) : Res P U fr L (.bsl g n z ps) o K r := by
  simp only [evOp] at hK
  split at hK
  · simp at hK
  · rename_i hn
    split at hK
    · rename_i row hrow
      obtain ⟨es, hf, hlit⟩ := Option.bind_eq_some_iff.1 hrow
      obtain ⟨htag, hcells⟩ := U.lit_eq _ _ _ hlit
      obtain ⟨i, zv, hi, hv, hsz⟩ := zeroT_some hz
      obtain ⟨i', zv', hi', hisz, hpos, _, hv', hzs⟩ := hT.ok e g hg
      rw [hi] at hi'; simp at hi'; subst hi'
      rw [hv] at hv'; simp at hv'; subst hv'
      refine .new hK fun h φ w a hs hsim => ?_
      have hzr := sameZ_ok (U := U) (φ := φ) (h := h) (w := w) _ _ hsz
      have hzl : z.length = i.size := by have := hzr.1; simp at this; omega
      obtain ⟨cells', h1, h2⟩ := fillS_ok (e0 := e) (e := i.size) (by omega) hs pts.toList ps _ es (madeCells zv.cells (n * i.size)) hp (fun p hp n hn => by simp [slots]; exact ⟨_, _, hp, hn⟩) (hzl ▸ hf) (fun x hx => by rw [List.eq_of_mem_replicate hx, hzl]) (made_rel hzr hzl)
      have hlen : es.length = n := by
        have : ∀ (ps : List (Nat × Opd)) (m : Nat) (es es' : List (List C)), fillS fr m es ps = some es' → es'.length = es.length := by
          intro ps
          induction ps with
          | nil => intro m es es' h; simp [fillS] at h; rw [h]
          | cons p ps ih =>
            intro m es es' h
            simp only [fillS] at h
            split at h
            · split at h
              · rw [ih _ _ _ h]; simp
              · simp at h
            · simp at h
        rw [this _ _ _ _ hf]; simp
      have hlr : U.len row = n := by rw [U.len_eq, hcells, hlen]
      have hfl : es.flatten.length = n * i.size := by
        have h3 := flat_len (U := U) row
        simp only [flat, hcells, hlr, htag] at h3
        rw [h3, hisz]
      have hcs : cells'.size = n * i.size := by have := h2.1; simp at this hfl; omega
      refine ⟨.slice (some ⟨w.heap.size, 0, none⟩) n n, { w with heap := w.heap.push (.cells cells' e) }, cells', e, 0, 0, ?_, rfl, rfl, rfl, rfl, .inl rfl, fun j c' hj => ?_, fun φ' h' hφ hh => ?_⟩
      · have hm : (Array.range (n * i.size)).map (fun x => (if n * i.size = 0 then (#[] : Array Value) else zv.cells)[x % (if n * i.size = 0 then (#[] : Array Value) else zv.cells).size]!) = madeCells zv.cells (n * i.size) := by
          by_cases h0 : n * i.size = 0
          · rw [h0]; simp [madeCells, Array.range_zero']
          · simp [h0, madeCells]
        have hfill : Instr.fill (fun j => some (j * i.size, i.size)) (madeCells zv.cells (n * i.size)) (pts.map fun (i, x) => (i, a.eval x)).toList = some cells' := by
          rw [Array.toList_map]; exact h1
        rw [← hm] at hfill
        have hnb : ¬ (n * i.size > 2 ^ 24) := by rw [hzl] at hn; omega
        by_cases h0 : n * i.size = 0
        · simp [h0] at hfill
          simp [execOp, ho, Instr.buildSlice, run_und hu, sizeOf, typeInfo, hi, h0, hfill, newRow]
        · simp [h0] at hfill
          simp [execOp, ho, Instr.buildSlice, run_und hu, sizeOf, typeInfo, hi, hnb, h0, run_zero hi hv, hfill, newRow]
      · simp only [flat, hcells] at hj
        obtain ⟨u, h3, h4⟩ := h2.get hj
        exact ⟨u, by simpa using h3, h4⟩
      · refine newSl rfl hφ hh hlr (Nat.le_refl _) ?_
        rw [htag, ← hisz, hcs]; exact Nat.le_refl _
    · simp at hK

theorem ok_mk (hT : TagOk P U tagT) {t e g by_ : Nat} {X Y : Operand} {x : Opd} {z : List C} {t1 t2 : Option TypeId} (ho : o.op = .makeSlice t X Y) (hu : P.underlying t = some (.slice e)) (hg : tagT e = some g) (hby : byT P e = some by_)
    (hz : zeroT P tagT e = some z) (hx : ofOp P tagT t1 X = some x) (hy : ofOp P tagT t2 Y = some x) (hK : evOp U fr L (.mk g by_ z x) K = some r) : Res P U fr L (.mk g by_ z x) o K r := by
  simp only [evOp] at hK
  split at hK
  · rename_i n ev1
    obtain ⟨h0, hK1⟩ := cond_none hK
    obtain ⟨hb, hK2⟩ := cond_none hK1
    clear hK hK1
    simp only [decide_eq_true_eq] at h0 hb
    split at hK2
    · rename_i row hrow
      obtain ⟨htag, hcells⟩ := U.rep_eq _ _ _ _ hrow
      obtain ⟨i, zv, hi, hv, hsz⟩ := zeroT_some hz
      obtain ⟨i', zv', hi', hisz, hpos, hbp, hv', hzs⟩ := hT.ok e g hg
      rw [hi] at hi'; simp at hi'; subst hi'
      rw [hv] at hv'; simp at hv'; subst hv'
      have hbe : by_ = i.bytes := by unfold byT at hby; rw [hi] at hby; simpa using hby.symm
      subst hbe
      refine .new hK2 fun h φ w a hs hsim => ?_
      have hzr := sameZ_ok (U := U) (φ := φ) (h := h) (w := w) _ _ hsz
      have hzl : z.length = i.size := by have := hzr.1; simp at this; omega
      have e1 := relInt (ev_ok hx hs (fun _ h => h) ev1)
      have e2 := relInt (ev_ok hy hs (fun _ h => h) ev1)
      have hb' : (i.bytes : Int) * n ≤ 281474976710656 := by rw [Int.mul_comm]; exact hb
      have h63 : n ≤ 9223372036854775807 := by
        have : (1 : Int) * n ≤ (i.bytes : Int) * n := Int.mul_le_mul_of_nonneg_right (by omega) h0
        omega
      have hrun := run_make (P := P) w t e i zv hu hi hv .i64 .i64 n n h0 (Int.le_refl _) hb' h63
      have hlr : U.len row = n.toNat := by rw [U.len_eq, hcells]; simp
      refine ⟨.slice (some ⟨w.heap.size, 0, none⟩) n.toNat n.toNat, w.alloc (.cells (madeCells zv.cells (n.toNat * i.size)) e), madeCells zv.cells (n.toNat * i.size), e, 0, 0, ?_, rfl, rfl, rfl, rfl, .inl rfl, fun j c' hj => ?_, fun φ' h' hφ hh => ?_⟩
      · simp [execOp, ho, e1, e2, hrun]
      · simp only [flat, hcells] at hj
        obtain ⟨u, h3, h4⟩ := (made_rel (n := n.toNat) hzr hzl).get hj
        exact ⟨u, by simpa using h3, h4⟩
      · refine newSl rfl hφ hh hlr (Nat.le_refl _) ?_
        rw [htag, ← hisz, size_madeCells]; exact Nat.le_refl _
    · simp at hK2
  · simp at hK

theorem ok_s2b {X : Operand} {x : Opd} {src dst e : Nat} {tt : Option TypeId} (ho : o.op = .convert src dst X) (hu : P.underlying src = some .string) (hd : P.underlying dst = some (.slice e)) (he : P.underlying e = some (.int .u8)) (hx : ofOp P tagT tt X = some x)
    (hK : evOp U fr L (.s2b x) K = some r) : Res P U fr L (.s2b x) o K r := by
  simp only [evOp] at hK
  split at hK
  · rename_i s ev1
    refine .new hK fun h φ w a hs hsim => ?_
    have e1 := relStr (ev_ok hx hs (fun _ h => h) ev1)
    have hrun := run_bytes_of_string (P := P) w src dst e s hu hd he
    have hge := grownCap_ge w s.size 0 e
    have hlr : U.len (U.ofStr s) = s.size := by rw [U.len_eq, U.ofStr_eq, List.length_map, Array.length_toList]; rfl
    have hbs : (bytesRow s (grownCap w s.size 0 e)).size = grownCap w s.size 0 e := by
      simp only [bytesRow, Array.size_append, Array.size_map, Array.size_replicate]
      show s.size + _ = _
      omega
    refine ⟨.slice (some ⟨w.heap.size, 0, none⟩) s.size (grownCap w s.size 0 e), w.drew.alloc (.cells (bytesRow s (grownCap w s.size 0 e)) e ((bytesRow s (grownCap w s.size 0 e)).size, (bytesRow s (grownCap w s.size 0 e)).size + 1)), bytesRow s (grownCap w s.size 0 e), e, (bytesRow s (grownCap w s.size 0 e)).size, (bytesRow s (grownCap w s.size 0 e)).size + 1, ?_, rfl, rfl, rfl, rfl, .inr (Nat.le_refl _), fun j c' hj => ?_, fun φ' h' hφ hh => ?_⟩
    · simp [execOp, ho, e1, hrun]
    · simp only [flat, U.ofStr_eq] at hj
      have hf : (s.data.toList.map fun b => [C.int .u8 b.toNat]).flatten = s.data.toList.map fun b => C.int .u8 b.toNat := by
        induction s.data.toList with
        | nil => rfl
        | cons b bs ih => simp [ih]
      rw [hf, List.getElem?_map] at hj
      obtain ⟨b, hb, rfl⟩ := Option.map_eq_some_iff.1 hj
      obtain ⟨hjl, hb⟩ := List.getElem?_eq_some_iff.1 hb
      refine ⟨_, bytesRow_at s _ j (by simpa using hjl), ?_⟩
      subst hb
      rfl
    · refine newSl (w := w) (lh := (_, _)) rfl hφ hh hlr hge ?_
      rw [U.ofStr_esz, hbs]; simp
  · simp at hK
end
end Go.Eng
/- The engine, part 12: what is stored. -/
namespace Go.Eng
section
variable {R : Type} {U : RowU R} {P : Program} {tagT : TypeId → Option Nat} {ρ : Type}
variable {fr : Fr} {L : Heap R} {o : Oper} {K : KV R ρ} {r : ρ}

theorem setCell_at {w : World} {b o : Nat} {v : Value} {cs : Array Value} {t : Nat} {lh : Nat × Nat} (hb : w.heap[b]? = some (.cells cs t lh)) : (w.setCell ⟨b, o, none⟩ v).heap[b]? = some (.cells (cs.setIfInBounds o v) t lh) := by
  have hlt : b < w.heap.size := (Array.getElem?_eq_some_iff.1 hb).1
  have hv : w.heap[b] = .cells cs t lh := (Array.getElem?_eq_some_iff.1 hb).2
  unfold World.setCell
  rw [Array.getElem?_eq_getElem (by simpa using hlt), Array.getElem_modify]
  simp [hv]
theorem setCell_other {w : World} {b o i : Nat} {v : Value} (hi : i ≠ b) : (w.setCell ⟨b, o, none⟩ v).heap[i]? = w.heap[i]? := by
  simp [World.setCell, Array.getElem?_modify, Ne.symm hi]
theorem setCells_at {b t : Nat} {lh : Nat × Nat} : ∀ (vs : List Value) (o : Nat) (w : World) (cs : Array Value), w.heap[b]? = some (.cells cs t lh) → o + vs.length ≤ cs.size →
    ∃ cs', (w.setCells b o vs).heap[b]? = some (.cells cs' t lh) ∧ cs'.toList = cs.toList.take o ++ vs ++ cs.toList.drop (o + vs.length)
  | [], o, w, cs, hb, _ => ⟨cs, hb, by simp⟩
  | v :: vs, o, w, cs, hb, hl => by
    simp only [List.length_cons] at hl
    obtain ⟨cs', h1, h2⟩ := setCells_at vs (o + 1) (w.setCell ⟨b, o, none⟩ v) _ (setCell_at hb) (by simp; omega)
    refine ⟨cs', h1, ?_⟩
    rw [h2, Array.toList_setIfInBounds]
    have hlt : o < cs.toList.length := by simp; omega
    have e1 : (cs.toList.set o v).take (o + 1) = cs.toList.take o ++ [v] := by
      rw [List.set_eq_take_append_cons_drop, if_pos hlt, List.take_append]
      simp only [List.length_take, Nat.min_eq_left (Nat.le_of_lt hlt)]
      rw [List.take_of_length_le (by simp; omega), show o + 1 - o = 1 by omega]
      simp
    have e2 : (cs.toList.set o v).drop (o + 1 + vs.length) = cs.toList.drop (o + (v :: vs).length) := by
      rw [List.drop_set_of_lt (by omega)]
      simp only [List.length_cons]
      congr 1; omega
    rw [e1, e2]
    simp
theorem setCells_other {b i : Nat} (hi : i ≠ b) : ∀ (vs : List Value) (o : Nat) (w : World), (w.setCells b o vs).heap[i]? = w.heap[i]?
  | [], _, _ => rfl
  | v :: vs, o, w => by rw [World.setCells, setCells_other hi vs, setCell_other hi]
theorem setCells_rest (b : Nat) : ∀ (vs : List Value) (o : Nat) (w : World), (w.setCells b o vs).heap.size = w.heap.size ∧ (w.setCells b o vs).os = w.os ∧ (w.setCells b o vs).tape = w.tape ∧ (w.setCells b o vs).output = w.output
  | [], _, _ => ⟨rfl, rfl, rfl, rfl⟩
  | v :: vs, o, w => by
    obtain ⟨h1, h2, h3, h4⟩ := setCells_rest b vs (o + 1) (w.setCell ⟨b, o, none⟩ v)
    exact ⟨h1.trans (World.size_setCell ..), h2, h3, h4⟩

/-- Some cells of an own block are written. -/
theorem Stp.wr {φ : Phi} {h : Hp R} {w : World} {b g q : Nat} {k k' : BK R} {a : Addr} {cvs : List C} {vs : List Value} (hs : Sim U φ h w) (hb : h b = some ⟨k, g, 2⟩) (ha : φ b = some a)
    (hv : All2 (RelC U φ h w) cvs vs) (hq : q + cvs.length ≤ (flat U k).length) (hk : flat U k' = (flat U k).take q ++ cvs ++ (flat U k).drop (q + cvs.length))
    (hrow : ∀ r', k' = .row r' → ∃ r, k = .row r ∧ U.len r' = U.len r ∧ U.tag r' = U.tag r) (hbox : ∀ cs', k' = .box cs' → ∃ cs, k = .box cs) :
    a.spot = none ∧ (∀ j, j < vs.length → (w.cell? ⟨a.block, a.off + q + j, none⟩).isSome = true) ∧ (∀ j, j < vs.length → w.frozen? ⟨a.block, a.off + q + j, none⟩ = false) ∧
    Stp U φ h w (phiSet φ b (some a)) (hpSet h b ⟨k', g, 2⟩) (w.setCells a.block (a.off + q) vs) [b] := by
  rcases hs.own hb with ⟨_, _, _, hn⟩ | ⟨a0, ha0, hsp, cs, t, lo, hi, hc, hf, hcells⟩
  · rw [ha] at hn; simp at hn
  · rw [ha] at ha0; simp at ha0; subst ha0
    have hlen := hv.1
    have hle : a.off + q + vs.length ≤ cs.size ∨ vs.length = 0 := by
      by_cases h0 : vs.length = 0
      · exact .inr h0
      · left
        have hj : q + vs.length - 1 < (flat U k).length := by omega
        obtain ⟨v, h1, _⟩ := hcells (q + vs.length - 1) _ (List.getElem?_eq_getElem hj)
        have := (Array.getElem?_eq_some_iff.1 h1).1
        omega
    have hcell : ∀ j, j < vs.length → a.off + q + j < cs.size := fun j hj => by omega
    refine ⟨hsp, fun j hj => ?_, fun j hj => ?_, ?_⟩
    · simp [World.cell?, hc, hcell j hj]
    · have := hcell j hj
      simp [World.frozen?, hc]
      intro h1
      rcases hf with hf | hf <;> omega
    · by_cases h0 : vs.length = 0
      · obtain rfl := List.eq_nil_of_length_eq_zero h0
        obtain rfl := List.eq_nil_of_length_eq_zero (by rw [hlen, h0])
        simp at hk
        refine .chg hs hb (fun i o ho _ => ho) (fun a _ cs t fr hc => ⟨cs, t, fr, hc, Nat.le_refl _⟩) ⟨hsp, cs, t, lo, hi, hc, hf, fun i c hi => hcells i c (by rwa [hk] at hi)⟩ (.inl ⟨a, ha, rfl⟩) (Nat.le_refl _) rfl rfl rfl (.inl ⟨rfl, ha, hrow, hbox⟩)
      · have hle : a.off + q + vs.length ≤ cs.size := by omega
        obtain ⟨cs', h1, h2⟩ := setCells_at vs (a.off + q) w cs hc hle
        obtain ⟨r1, r2, r3, r4⟩ := setCells_rest a.block vs (a.off + q) w
        have hsz : cs'.size = cs.size := by
          have := congrArg List.length h2
          simp at this; omega
        refine .chg hs hb (fun i o ho hne => ?_) (fun a1 ha1 cs1 t1 fr1 hc1 => ?_) ⟨hsp, cs', t, lo, hi, h1, by rw [hsz]; exact hf, fun i c hi => ?_⟩ (.inl ⟨a, ha, rfl⟩) (by rw [r1]; exact Nat.le_refl _) r2 r3 r4 (.inl ⟨rfl, ha, hrow, hbox⟩)
        · rw [setCells_other (fun e => hne a ha e.symm)]; exact ho
        · rw [ha] at ha1; simp at ha1; subst ha1
          rw [hc] at hc1; simp at hc1; obtain ⟨rfl, rfl, rfl⟩ := hc1
          exact ⟨cs', t, _, h1, by omega⟩
        · have hget : ∀ j : Nat, cs'[a.off + j]? = (cs.toList.take (a.off + q) ++ vs ++ cs.toList.drop (a.off + q + vs.length))[a.off + j]? := fun j => by
            rw [← h2]; simp
          rw [hget]
          rw [hk] at hi
          rcases Nat.lt_or_ge i q with hiq | hiq
          · rw [List.append_assoc, List.getElem?_append_left (by simp; omega), List.getElem?_take, if_pos hiq] at hi
            rw [List.append_assoc, List.getElem?_append_left (by simp; omega), List.getElem?_take, if_pos (by omega)]
            simpa using hcells i c hi
          · rw [List.append_assoc, List.getElem?_append_right (by simp; omega)] at hi
            rw [List.append_assoc, List.getElem?_append_right (by simp; omega)]
            simp only [List.length_take, Array.length_toList] at hi ⊢
            rw [Nat.min_eq_left (by omega)] at hi
            rw [Nat.min_eq_left (by omega), show a.off + i - (a.off + q) = i - q by omega]
            rcases Nat.lt_or_ge (i - q) vs.length with hiv | hiv
            · rw [List.getElem?_append_left (by omega)] at hi
              rw [List.getElem?_append_left hiv]
              exact hv.get hi
            · rw [List.getElem?_append_right (by omega), List.getElem?_drop] at hi
              rw [List.getElem?_append_right hiv, List.getElem?_drop]
              obtain ⟨v, h3, h4⟩ := hcells _ c hi
              refine ⟨v, ?_, h4⟩
              rw [← h3, Array.getElem?_toList]
              congr 1; omega

theorem cells_one_all {φ : Phi} {h : Hp R} {w : World} {cs : List C} {vs : List Value} (ha : All2 (RelC U φ h w) cs vs) : ∀ v ∈ vs, v.oneCell' = true := by
  intro v hv
  obtain ⟨i, hi⟩ := List.getElem?_of_mem hv
  obtain ⟨c, _, hr⟩ := ha.get' hi
  exact RelC.one U hr

theorem take_mid {α : Type} (F v : List α) {p e q n : Nat} (h1 : q + n ≤ e) (h2 : p + e ≤ F.length) :
    F.take p ++ (((F.drop p).take e).take q ++ v ++ ((F.drop p).take e).drop (q + n)) ++ F.drop (p + e) = F.take (p + q) ++ v ++ F.drop (p + q + n) := by
  have e1 : F.take p ++ ((F.drop p).take e).take q = F.take (p + q) := by
    rw [List.take_take, Nat.min_eq_left (by omega), ← List.take_add]
  have e2 : ((F.drop p).take e).drop (q + n) ++ F.drop (p + e) = F.drop (p + q + n) := by
    rw [← List.drop_drop (l := F) (j := p) (i := e)]
    rw [← List.drop_append_of_le_length (by simp; omega), List.take_append_drop, List.drop_drop]
    congr 1; omega
  rw [← e1, ← e2]
  simp only [List.append_assoc]

theorem run_store {t n : Nat} {a : Addr} {v : Value} {w : World} {q : Nat} (hn : szT P t = some n) (hv : v.cells.size = n) (hsp : a.spot = none) (h1 : ∀ j, j < v.cells.toList.length → (w.cell? ⟨a.block, a.off + q + j, none⟩).isSome = true)
    (h2 : ∀ j, j < v.cells.toList.length → w.frozen? ⟨a.block, a.off + q + j, none⟩ = false) (h3 : ∀ x ∈ v.cells.toList, x.oneCell' = true) :
    (Instr.storeAt t (.pointer (some (a.add q))) v).run P w = .ok () (w.setCells a.block (a.off + q) v.cells.toList) := by
  have := run_storeCells_cells (P := P) a.block (a.off + q) v.cells.toList 0 w h1 h2 h3
  rw [add_off hsp]
  simp [Instr.storeAt, Instr.sureAddr, storeVar, run_szT hn, hv]
  simpa using this

theorem ok_st {X Y : Operand} {x y : Opd} {t n : Nat} {t1 t2 : Option TypeId} (ho : o.op = .store t X Y) (hn : szT P t = some n) (hn0 : n ≠ 0) (hx : ofOp P tagT t1 X = some x) (hy : ofOp P tagT t2 Y = some y)
    (hK : evOp U fr L (.st n x y) K = some r) : Res P U fr L (.st n x y) o K r := by
  simp only [evOp] at hK
  split at hK
  · rename_i b off v e1 e2
    split at hK
    · rename_i cs g hown
      split at hK
      · rename_i hc
        have hL := own_some hown
        have hbl : b < L.length := (List.getElem?_eq_some_iff.1 hL).1
        refine ⟨_, _, _, _, hK, fun _ h => h, fun b' hb' => by simp [setBlk, List.getElem?_set]; intro e; simp at hb'; exact absurd e.symm hb', by simp [setBlk], fun h φ w a hA hs hsim => ?_⟩
        have hb : h b = some ⟨.box cs, g, 2⟩ := by rw [hA b (by simp), hL]
        obtain ⟨_, _, _, _, _, ad, ha, hpv⟩ := rel_ptr (ev_ok hx hs sub_l e1)
        have hval := val_cells (ev_ok hy hs sub_r e2) hc.1 hn0
        obtain ⟨p1, p2, p3, p4⟩ := Stp.wr (q := off) (k' := .box (cs.take off ++ v.cells ++ cs.drop (off + n))) hsim hb ha hval (by simp [flat]; omega) (by simp [flat, hc.1]) (fun r' hr' => by simp at hr') (fun cs' _ => ⟨cs, rfl⟩)
        have hsz : (a.eval Y).cells.size = n := by have := hval.1; simp at this; omega
        have hrun := run_store (P := P) (q := off) hn hsz p1 p2 p3 (cells_one_all hval)
        rw [setBlk, upd_set h L b _ hbl]
        exact .skip (by simp [execOp, ho, hpv, hrun]) p4
      · simp at hK
    · simp at hK
  · rename_i b g i off v e1 e2
    split at hK
    · rename_i row g' hown
      split at hK
      · rename_i hg; subst hg
        split at hK
        · rename_i hc
          split at hK
          · rename_i row' hset
            have hL := own_some hown
            have hbl : b < L.length := (List.getElem?_eq_some_iff.1 hL).1
            refine ⟨_, _, _, _, hK, fun _ h => h, fun b' hb' => by simp [setBlk, List.getElem?_set]; intro e; simp at hb'; exact absurd e.symm hb', by simp [setBlk], fun h φ w a hA hs hsim => ?_⟩
            have hb : h b = some ⟨.row row, g', 2⟩ := by rw [hA b (by simp), hL]
            obtain ⟨hi, ad, ha, hpv⟩ := rel_pr (ev_ok hx hs sub_l e1) hb (by simp)
            have hval := val_cells (ev_ok hy hs sub_r e2) hc.1 hn0
            obtain ⟨htag, hcells⟩ := U.set_eq _ _ _ _ hi hset
            have hglen := getD_len row hi
            have hys : (if n = U.esz (U.tag row) then v.cells else (U.getD row i).take off ++ v.cells ++ (U.getD row i).drop (off + n)) = (U.getD row i).take off ++ v.cells ++ (U.getD row i).drop (off + n) := by
              split
              · rename_i hne
                have h0 : off = 0 := by omega
                subst h0
                rw [List.drop_of_length_le (by omega)]
                simp
              · rfl
            rw [hys] at hcells
            have hfl := flat_len (U := U) row
            have hil : i * U.esz (U.tag row) + U.esz (U.tag row) ≤ (flat U (.row row)).length := by
              rw [hfl, ← Nat.succ_mul]; exact Nat.mul_le_mul_right _ hi
            have hgd : U.getD row i = ((flat U (.row row)).drop (i * U.esz (U.tag row))).take (U.esz (U.tag row)) := by
              apply List.ext_getElem?
              intro j
              rw [List.getElem?_take]
              split
              · rename_i hj
                rw [List.getElem?_drop, flat_row_get row hi hj]
              · rw [List.getElem?_eq_none]; omega
            have hflat : flat U (.row row') = (flat U (.row row)).take (i * U.esz (U.tag row) + off) ++ v.cells ++ (flat U (.row row)).drop (i * U.esz (U.tag row) + off + v.cells.length) := by
              show (U.cells row').flatten = _
              rw [hcells, flatten_set (e := U.esz (U.tag row)) (U.cells row) (U.tag_esz row) (by rw [← U.len_eq]; exact hi)]
              show (flat U (.row row)).take _ ++ _ ++ (flat U (.row row)).drop _ = _
              rw [hgd, hc.1]
              exact take_mid _ _ hc.2 hil
            have hlr : U.len row' = U.len row := by rw [U.len_eq, U.len_eq, hcells]; simp
            obtain ⟨p1, p2, p3, p4⟩ := Stp.wr (q := i * U.esz (U.tag row) + off) (k' := .row row') hsim hb ha hval (by omega) hflat (fun r' hr' => by simp at hr'; subst hr'; exact ⟨row, rfl, hlr, htag⟩) (fun cs' hcs => by simp at hcs)
            have hsz : (a.eval Y).cells.size = n := by have := hval.1; simp at this; omega
            have hrun := run_store (P := P) (q := i * U.esz (U.tag row) + off) hn hsz p1 p2 p3 (cells_one_all hval)
            rw [setBlk, upd_set h L b _ hbl]
            exact .skip (by simp [execOp, ho, hpv, hrun]) p4
          · simp at hK
        · simp at hK
      · simp at hK
    · simp at hK
  · simp at hK
end
end Go.Eng
/- The engine, part 13: append. -/
namespace Go.Eng
section
variable {R : Type} {U : RowU R} {P : Program} {tagT : TypeId → Option Nat} {ρ : Type}
variable {fr : Fr} {L : Heap R} {o : Oper} {K : KV R ρ} {r : ρ}

theorem run_first {w : World} {size n : Nat} {B : Option Addr} {len cap : Nat} {cs : List Value} (hl : cs.length = n * size) (h : n = 0 ∨ ∃ ad, B = some ad ∧ ∀ (j : Nat) v, cs[j]? = some v → w.cell? (ad.add j) = some v) :
    (Builtin.firstCells size n (.slice B len cap)).run P w = .ok cs.toArray w := by
  cases B with
  | none =>
    rcases h with rfl | ⟨_, h, _⟩
    · obtain rfl := List.eq_nil_of_length_eq_zero (by simpa using hl)
      exact run_firstCells_none w _ _ _ _
    · simp at h
  | some ad =>
    refine run_firstCells_some w size n ad len cap cs hl fun j v hj => ?_
    rcases h with rfl | ⟨_, h, hc⟩
    · obtain rfl := List.eq_nil_of_length_eq_zero (by simpa using hl)
      simp at hj
    · simp at h; subst h; exact hc j v hj

section
variable {w : World} {t u ty e e' : Nat} {i : TypeInfo} {z : Value} (ht : P.underlying t = some (.slice e)) (hu : P.underlying u = some (.slice e')) (hi : P.info? e = some i)
include ht hu hi

theorem run_app_none {A B : Option Addr} {n cap c : Nat} (hc : n ≤ cap) : (Builtin.append_ #[t, u] ty #[.slice A n cap, .slice B 0 c]).run P w = .ok (.slice A n cap) w := by
  have hf := run_first (P := P) (w := w) (size := i.size) (n := 0) (B := B) (len := 0) (cap := c) (cs := []) (by simp) (.inl rfl)
  cases A <;> simp [Builtin.append_, run_underlying ht, run_underlying hu, sizeOf, typeInfo, hi, Builtin.lenOf, hc, hf, storeCells]

theorem run_app_room {b off n cap m c : Nat} {B : Option Addr} {news : List Value} (hl : news.length = m * i.size) (hB : m = 0 ∨ ∃ ad, B = some ad ∧ ∀ (j : Nat) v, news[j]? = some v → w.cell? (ad.add j) = some v)
    (hroom : n + m ≤ cap) (hc : ∀ j, j < news.length → (w.cell? ⟨b, off + n * i.size + j, none⟩).isSome = true) (hf : ∀ j, j < news.length → w.frozen? ⟨b, off + n * i.size + j, none⟩ = false) (h1 : ∀ x ∈ news, x.oneCell' = true) :
    (Builtin.append_ #[t, u] ty #[.slice (some ⟨b, off, none⟩) n cap, .slice B m c]).run P w = .ok (.slice (some ⟨b, off, none⟩) (n + m) cap) (w.setCells b (off + n * i.size) news) := by
  have hfc := run_first (P := P) (len := m) (cap := c) hl hB
  have hst := run_storeCells_cells (P := P) b (off + n * i.size) news 0 w (by simpa using hc) (by simpa using hf) h1
  simp only [Nat.add_zero] at hst
  simp [Builtin.append_, run_underlying ht, run_underlying hu, sizeOf, typeInfo, hi, Builtin.lenOf, hroom, hfc, Addr.add_lit, hst]

theorem run_app_grow (hz : i.zero = some z) {n cap m c : Nat} {A B : Option Addr} {olds news : List Value} (hlo : olds.length = n * i.size) (hA : n = 0 ∨ ∃ ad, A = some ad ∧ ∀ (j : Nat) v, olds[j]? = some v → w.cell? (ad.add j) = some v)
    (hl : news.length = m * i.size) (hB : m = 0 ∨ ∃ ad, B = some ad ∧ ∀ (j : Nat) v, news[j]? = some v → w.cell? (ad.add j) = some v)
    (hg : cap < n + m) (h63 : ((n + m : Nat) : Int) ≤ 9223372036854775807) (hfit : Builtin.nextslicecap (n + m) cap * i.bytes ≤ 281474976710656) :
    (Builtin.append_ #[t, u] ty #[.slice A n cap, .slice B m c]).run P w =
      .ok (.slice (some ⟨w.heap.size, 0, none⟩) (n + m) (grownCap w (n + m) cap e))
        (w.drew.alloc (.cells (olds.toArray ++ news.toArray ++ Builtin.zeroCells z.cells (grownCap w (n + m) cap e - (n + m))) e)) := by
  have hn : ¬ (n + m ≤ cap) := by omega
  have h63' : ¬ (9223372036854775807 < ((n : Int) + (m : Int))) := by omega
  have h48' : ¬ (281474976710656 < Builtin.nextslicecap (n + m) cap * i.bytes) := by omega
  have hf := run_first (P := P) (w := w.drew) (len := m) (cap := c) hl (hB.imp id fun ⟨ad, h1, h2⟩ => ⟨ad, h1, fun j v hj => by simpa using h2 j v hj⟩)
  have hfo := run_first (P := P) (w := w.drew) (len := n) (cap := cap) hlo (hA.imp id fun ⟨ad, h1, h2⟩ => ⟨ad, h1, fun j v hj => by simpa using h2 j v hj⟩)
  simp [Builtin.append_, run_underlying ht, run_underlying hu, sizeOf, typeInfo, zeroValue, hi, hz, Builtin.lenOf, hn, h63', h48', Question.forced, hf, hfo, newRow, grownCap]
  congr 2
  apply Array.ext'
  simp [List.append_assoc]
end

/-- A block that is told anew, the world as it was. -/
theorem Stp.bump {φ : Phi} {h : Hp R} {w : World} {b g g' : Nat} {k k' : BK R} (hs : Sim U φ h w) (hb : h b = some ⟨k, g, 2⟩) (hg : g ≤ g') (hfl : flat U k' = flat U k)
    (hrow : ∃ r r', k = .row r ∧ k' = .row r' ∧ U.len r' = U.len r ∧ U.tag r' = U.tag r) : Stp U φ h w φ (hpSet h b ⟨k', g', 2⟩) w [b] := by
  obtain ⟨r, r', rfl, rfl, hlen, htag⟩ := hrow
  have hd : HdrOk U w w φ φ b ⟨.row r, g, 2⟩ ⟨.row r', g', 2⟩ := ⟨rfl, rfl, fun x hx => by simp at hx; subst hx; exact ⟨r, rfl, hlen, htag⟩, fun cs hc => by simp at hc, fun a _ cs t fr hc => ⟨cs, t, fr, hc, Nat.le_refl _⟩⟩
  have he : Ext U φ h w φ (hpSet h b ⟨.row r', g', 2⟩) w := by
    intro b0 blk hb0
    by_cases e : b0 = b
    · subst e
      rw [hb] at hb0; simp at hb0; subst hb0
      exact ⟨_, hpSet_self .., hg, fun _ cs hc => by simp at hc, fun _ _ => hd⟩
    · exact ⟨blk, by rw [hpSet_ne _ _ e, hb0], Nat.le_refl _, fun _ cs hc => ⟨⟨cs, hc⟩, .refl⟩, fun _ _ => .refl⟩
  have hback : ∀ b0 blk, hpSet h b ⟨.row r', g', 2⟩ b0 = some blk → ∃ blk0, h b0 = some blk0 ∧ blk0.m = blk.m := by
    intro b0 blk hb0
    by_cases e : b0 = b
    · subst e
      rw [hpSet_self] at hb0; simp at hb0; subst hb0
      exact ⟨_, hb, rfl⟩
    · rw [hpSet_ne _ _ e] at hb0; exact ⟨_, hb0, rfl⟩
  refine ⟨⟨fun b0 blk a hb0 hm ha => ?_, fun b0 blk hb0 => ?_, fun b0 b1 blk blk' a a1 hne hb0 hb1 hm hm' ha ha1 => ?_⟩, he, .refl, fun _ _ => rfl, fun b0 hb0 a ha => ?_, fun b0 hb0 => .inl ⟨_, by simp at hb0; subst hb0; exact hb, rfl⟩⟩
  · obtain ⟨x, h1, h2⟩ := hback b0 blk hb0
    exact hs.lt b0 x a h1 (h2 ▸ hm) ha
  · by_cases e : b0 = b
    · subst e
      rw [hpSet_self] at hb0; simp at hb0; subst hb0
      have := (hs.blk b0 _ hb).keep he rfl fun _ _ _ hx => hx
      unfold BlkOk at this ⊢
      simp only [Nat.reduceEqDiff, if_false, if_true] at this ⊢
      rw [hfl]
      rcases this with ⟨x, hx, hl, hp⟩ | h
      · simp at hx; subst hx
        exact .inl ⟨r', rfl, by rw [hlen, hl], hp⟩
      · exact .inr h
    · rw [hpSet_ne _ _ e] at hb0
      exact (hs.blk b0 blk hb0).keep he rfl fun _ _ _ hx => hx
  · obtain ⟨x, h1, h2⟩ := hback b0 blk hb0
    obtain ⟨y, h3, h4⟩ := hback b1 blk' hb1
    exact hs.apart b0 b1 x y a a1 hne h1 h3 (h2 ▸ hm) (h4 ▸ hm') ha ha1
  · simp at hb0; subst hb0
    exact .inl ⟨_, a, hb, rfl, ha, rfl⟩

/-- A new row that lies nowhere. -/
theorem Stp.newNone {φ : Phi} {h : Hp R} {w : World} {n : Nat} (hs : Sim U φ h w) (hn : h n = none) (row : R) (hl : U.len row = 0) :
    Stp U φ h w (phiSet φ n none) (hpSet h n ⟨.row row, 0, 2⟩) w [n] := by
  have he : Ext U φ h w (phiSet φ n none) (hpSet h n ⟨.row row, 0, 2⟩) w := Ext.newH hn fun _ _ h => h
  refine ⟨⟨fun b blk a hb hm ha => ?_, fun b blk hb => ?_, fun b b' blk blk' a a' hne hb hb' hm hm' ha ha' => ?_⟩, he, .refl, fun b hb => phiSet_ne _ _ (by simpa using hb), fun b hb a ha => ?_, fun b hb => .inr (by simp at hb; subst hb; exact hn)⟩
  · by_cases e : b = n
    · subst e; rw [phiSet_self] at ha; simp at ha
    · rw [hpSet_ne _ _ e] at hb; rw [phiSet_ne _ _ e] at ha; exact hs.lt b blk a hb hm ha
  · by_cases e : b = n
    · subst e
      rw [hpSet_self] at hb; simp at hb; subst hb
      unfold BlkOk
      simp only [Nat.reduceEqDiff, if_false, if_true]
      exact .inl ⟨row, rfl, hl, phiSet_self ..⟩
    · rw [hpSet_ne _ _ e] at hb
      exact (hs.blk b blk hb).keep he (phiSet_ne _ _ e) fun _ _ _ hx => hx
  · by_cases e : b = n
    · subst e; rw [phiSet_self] at ha; simp at ha
    · by_cases e' : b' = n
      · subst e'; rw [phiSet_self] at ha'; simp at ha'
      · rw [hpSet_ne _ _ e] at hb; rw [phiSet_ne _ _ e] at ha
        rw [hpSet_ne _ _ e'] at hb'; rw [phiSet_ne _ _ e'] at ha'
        exact hs.apart b b' blk blk' a a' hne hb hb' hm hm' ha ha'
  · simp at hb; subst hb; rw [phiSet_self] at ha; simp at ha

/-- The cells of a slice's elements, as a list of what they hold. -/
theorem cells_list {φ : Phi} {h : Hp R} {w : World} {row : R} {A : Option Addr} {n : Nat} (hn : n = U.len row) (hc : n = 0 ∨ ∃ ad, A = some ad ∧ ∀ (i : Nat) cc, (flat U (.row row))[i]? = some cc → ∃ u, w.cell? (ad.add i) = some u ∧ RelC U φ h w cc u) :
    ∃ vs : List Value, All2 (RelC U φ h w) (flat U (.row row)) vs ∧ vs.length = n * U.esz (U.tag row) ∧ (n = 0 ∨ ∃ ad, A = some ad ∧ ∀ (j : Nat) v, vs[j]? = some v → w.cell? (ad.add j) = some v) := by
  subst hn
  have hfl := flat_len (U := U) row
  rcases hc with h0 | ⟨ad, rfl, hc⟩
  · have : flat U (.row row) = [] := List.eq_nil_of_length_eq_zero (by rw [hfl, h0]; simp)
    exact ⟨[], by rw [this]; exact .nil, by simp [h0], .inl h0⟩
  · obtain ⟨vs, ha, hv⟩ := All2.exists_ (f := fun i => w.cell? (ad.add i)) hc
    exact ⟨vs, ha, by rw [← ha.1, hfl], .inr ⟨ad, rfl, hv⟩⟩
end
end Go.Eng
/- The engine, part 14: append, continued. -/
namespace Go.Eng
set_option linter.unusedSectionVars false
section
variable {R : Type} {U : RowU R} {P : Program} {tagT : TypeId → Option Nat} {ρ : Type}
variable {fr : Fr} {L : Heap R} {o : Oper} {K : KV R ρ} {r : ρ}

/-- What is appended. -/
def NewsOk (U : RowU R) (φ : Phi) (h : Hp R) (w : World) (ys : R) (B : Option Addr) (news : List Value) : Prop :=
  All2 (RelC U φ h w) (flat U (.row ys)) news ∧ (U.len ys = 0 ∨ ∃ ad, B = some ad ∧ ∀ (j : Nat) v, news[j]? = some v → w.cell? (ad.add j) = some v)

theorem flat_app {r0 ys r' : R} {n : Nat} (hc : U.cells r' = (U.cells r0).take n ++ U.cells ys) : flat U (.row r') = (flat U (.row r0)).take (n * U.esz (U.tag r0)) ++ flat U (.row ys) := by
  show (U.cells r').flatten = _
  rw [hc, List.flatten_append, flatten_take (e := U.esz (U.tag r0)) n _ (U.tag_esz r0)]
  rfl

theorem grown_cells {z : Array Value} {olds news : List Value} {n m g e : Nat} (ho : olds.length = n * e) (hn : news.length = m * e) (hz : z.size = e) (hg : n + m ≤ g) :
    (olds.toArray ++ news.toArray ++ Builtin.zeroCells z (g - (n + m))).size = g * e := by
  simp only [Array.size_append, List.size_toArray, size_zeroCells, hz, ho, hn, ← Nat.add_mul]
  congr 1
  omega
theorem grown_get {z : Array Value} {olds news : List Value} {k j : Nat} {v : Value} (hj : (olds ++ news)[j]? = some v) : (olds.toArray ++ news.toArray ++ Builtin.zeroCells z k)[j]? = some v := by
  have hl := (List.getElem?_eq_some_iff.1 hj).1
  rw [Array.getElem?_append_left (by simp at hl ⊢; omega), ← Array.getElem?_toList]
  simpa using hj

section
variable {φ : Phi} {h : Hp R} {w : World} {t u ty e e' : Nat} {i : TypeInfo} {z : Value} (ht : P.underlying t = some (.slice e)) (hu : P.underlying u = some (.slice e')) (hi : P.info? e = some i) (hz : i.zero = some z) (hpos : 0 < i.size) (hbp : 0 < i.bytes)
  (hzs : z.cells.size = i.size) (hsim : Sim U φ h w)
include ht hu hi hz hpos hbp hzs hsim

theorem app_bounds {n m : Nat} (hb : (n + m) * i.bytes ≤ 140737488355328) : ((n + m : Nat) : Int) ≤ 9223372036854775807 := by
  have : (n + m) * 1 ≤ (n + m) * i.bytes := Nat.mul_le_mul_left _ hbp
  omega

theorem app_new {A B : Option Addr} {c b : Nat} {ys : R} {news : List Value} (hes : U.esz (U.tag ys) = i.size) (hy : NewsOk U φ h w ys B news) (hb : U.len ys * i.bytes ≤ 140737488355328) (hn : h b = none) :
    ∃ val φ' w', (Builtin.append_ #[t, u] ty #[.slice A 0 0, .slice B (U.len ys) c]).run P w = .ok val w' ∧ RelV U φ' (hpSet h b ⟨.row ys, 0, 2⟩) w' (.c (.sl b 0)) val ∧ Stp U φ h w φ' (hpSet h b ⟨.row ys, 0, 2⟩) w' [b] := by
  obtain ⟨hnews, hB⟩ := hy
  have hnl : news.length = U.len ys * i.size := by rw [← hnews.1, flat_len, hes]
  rcases Nat.eq_zero_or_pos (U.len ys) with h0 | h0
  · rw [h0]
    refine ⟨_, _, _, run_app_none ht hu hi (Nat.le_refl _), ⟨rfl, _, hpSet_self .., Nat.le_refl _, fun _ _ r' hr' => ?_⟩, .newNone hsim hn ys h0⟩
    simp at hr'; subst hr'
    rw [h0]
    exact ⟨by omega, A, 0, rfl, Nat.le_refl _, fun _ => by omega, .inl (.inl rfl)⟩
  · have hrun := run_app_grow (w := w) (ty := ty) ht hu hi hz (n := 0) (cap := 0) (m := U.len ys) (c := c) (A := A) (B := B) (olds := []) (by simp) (.inl rfl) hnl hB (by omega) (app_bounds (U := U) (φ := φ) (h := h) (w := w) ht hu hi hz hpos hbp hzs hsim (by rw [Nat.zero_add]; exact hb)) (growslice_fits (by omega) (by rw [Nat.zero_add]; exact hb))
    simp only [Nat.zero_add] at hrun
    have hge := grownCap_ge w (U.len ys) 0 e
    have hsz := grown_cells (z := z.cells) (olds := []) (news := news) (n := 0) (m := U.len ys) (g := grownCap w (U.len ys) 0 e) (e := i.size) (by simp) hnl hzs (by omega)
    simp only [Nat.zero_add] at hsz
    refine ⟨_, _, _, hrun, newSl (w := w) (lh := (0, 0)) rfl (phiSet_self ..) (hpSet_self ..) rfl hge (by rw [hes, hsz]; exact Nat.le_refl _), .newBlk hsim hn _ _ e 0 0 (.inl rfl) (fun j cc hj => ?_) rfl rfl rfl rfl⟩
    obtain ⟨v, h1, h2⟩ := hnews.get hj
    exact ⟨v, grown_get (olds := []) (by simpa using h1), h2⟩

theorem app_bump {b g n c : Nat} {r0 r' ys : R} {v : Value} {B : Option Addr} {news : List Value} (hb : h b = some ⟨.row r0, g, 2⟩) (hes0 : U.esz (U.tag r0) = i.size) (hv : SlOk U φ w b 2 r0 0 n v) (htr : U.tag r' = U.tag r0) (hty : U.tag ys = U.tag r0)
    (hc : U.cells r' = (U.cells r0).take n ++ U.cells ys) (hnl0 : n = U.len r0 ∨ U.len r0 < n + U.len ys) (hy : NewsOk U φ h w ys B news) (hby : (n + U.len ys) * i.bytes ≤ 140737488355328) :
    ∃ val φ' w', (Builtin.append_ #[t, u] ty #[v, .slice B (U.len ys) c]).run P w = .ok val w' ∧ RelV U φ' (hpSet h b ⟨.row r', g + 1, 2⟩) w' (.c (.sl b (g + 1))) val ∧ Stp U φ h w φ' (hpSet h b ⟨.row r', g + 1, 2⟩) w' [b] := by
  obtain ⟨hnews, hB⟩ := hy
  have hes : U.esz (U.tag ys) = i.size := by rw [hty, hes0]
  have hnl : news.length = U.len ys * i.size := by rw [← hnews.1, flat_len, hes]
  obtain ⟨hle, A, cap, rfl, hnc, hcap, hpl⟩ := hv
  simp only [Nat.zero_add] at hle
  have hlr : U.len r' = n + U.len ys := by rw [U.len_eq, hc, List.length_append, List.length_take, ← U.len_eq, ← U.len_eq]; omega
  have hfl := flat_app (U := U) hc
  rcases Nat.eq_zero_or_pos (U.len ys) with h0 | h0
  · have hn : n = U.len r0 := by omega
    have hys : U.cells ys = [] := List.eq_nil_of_length_eq_zero (by rw [← U.len_eq]; exact h0)
    have hceq : U.cells r' = U.cells r0 := by
      rw [hc, hys, List.append_nil, List.take_of_length_le (by rw [← U.len_eq]; omega)]
    have hll : U.len r' = U.len r0 := by omega
    rw [h0]
    refine ⟨_, _, _, run_app_none ht hu hi hnc, ⟨rfl, _, hpSet_self .., Nat.le_refl _, fun _ _ x hx => ?_⟩, .bump hsim hb (Nat.le_succ _) (by simp [flat, hceq]) ⟨r0, r', rfl, rfl, hll, htr⟩⟩
    simp at hx; subst hx
    rw [hll, ← hn]
    refine ⟨by omega, A, cap, rfl, hnc, fun e => by rw [hll]; exact hcap e, ?_⟩
    rw [htr]
    exact hpl
  · rcases Nat.lt_or_ge cap (n + U.len ys) with hgr | hroom
    · have holds : ∃ olds : List Value, All2 (RelC U φ h w) ((flat U (.row r0)).take (n * U.esz (U.tag r0))) olds ∧ (n = 0 ∨ ∃ ad, A = some ad ∧ ∀ (j : Nat) v, olds[j]? = some v → w.cell? (ad.add j) = some v) := by
        rcases Nat.eq_zero_or_pos n with hn0 | hn0
        · subst hn0; exact ⟨[], by simp; exact .nil, .inl rfl⟩
        · rcases hpl with (hp | ⟨hp, _⟩) | ⟨a, ha, rfl, _⟩
          · omega
          · omega
          · rcases hsim.cells hb (by simp) with ⟨hnil, _⟩ | ⟨a', ha', hcells⟩
            · exfalso
              have := flat_len (U := U) r0
              rw [hnil, hes0] at this
              have : 1 ≤ U.len r0 * i.size := Nat.mul_pos (by omega) hpos
              simp at *; omega
            · rw [ha] at ha'; simp at ha'; subst ha'
              obtain ⟨vs, h1, h2⟩ := All2.exists_ (f := fun j => w.cell? (a.add j)) (xs := (flat U (.row r0)).take (n * U.esz (U.tag r0))) (r := RelC U φ h w) (fun j cc hj => by
                rw [List.getElem?_take] at hj
                split at hj
                · exact hcells j cc hj
                · simp at hj)
              exact ⟨vs, h1, .inr ⟨_, rfl, fun j v hj => by rw [Nat.zero_mul, add_zero']; exact h2 j v hj⟩⟩
      obtain ⟨olds, hol, hA⟩ := holds
      have hollen : olds.length = n * i.size := by
        rw [← hol.1, List.length_take, flat_len, hes0]
        exact Nat.min_eq_left (Nat.mul_le_mul_right _ hle)
      have hrun := run_app_grow (w := w) (ty := ty) ht hu hi hz (n := n) (cap := cap) (m := U.len ys) (c := c) (A := A) (B := B) hollen hA hnl hB hgr (app_bounds (U := U) (φ := φ) (h := h) (w := w) ht hu hi hz hpos hbp hzs hsim hby) (growslice_fits hgr hby)
      have hge := grownCap_ge w (n + U.len ys) cap e
      have hsz := grown_cells (z := z.cells) hollen hnl hzs hge
      refine ⟨_, _, _, hrun, ⟨rfl, _, hpSet_self .., Nat.le_refl _, fun _ _ x hx => ?_⟩, .chg (k' := .row r') (g' := g + 1) (a' := ⟨w.heap.size, 0, none⟩) hsim hb (fun k ob hk _ => ?_) (fun a _ cs tt fr hcs => ⟨cs, tt, fr, ?_, Nat.le_refl _⟩) ⟨rfl, _, e, 0, 0, heap_alloc_new w.drew _, .inl rfl, fun j cc hj => ?_⟩ (.inr (Nat.le_refl _)) (by simp) rfl rfl rfl (.inr ⟨Nat.lt_succ_self _, ⟨r', rfl⟩, fun cs hcs => by simp at hcs⟩)⟩
      · simp at hx; subst hx
        rw [hlr]
        refine ⟨by omega, _, _, rfl, hge, fun _ => by omega, .inr ⟨_, phiSet_self .., by simp [Addr.add], fun _ => ⟨_, e, (0, 0), heap_alloc_new w.drew _, ?_⟩⟩⟩
        rw [htr, hes0, hsz]; simp
      · have hk' : k < w.heap.size := (Array.getElem?_eq_some_iff.1 hk).1
        rw [heap_alloc_old w.drew _ k hk']; exact hk
      · have hk' := (Array.getElem?_eq_some_iff.1 hcs).1
        rw [heap_alloc_old w.drew _ _ hk']; exact hcs
      · rw [hfl] at hj
        obtain ⟨v, h1, h2⟩ := (hol.append hnews).get hj
        exact ⟨v, by rw [Nat.zero_add]; exact grown_get h1, h2⟩
    · rcases hpl with (hp | ⟨_, hp⟩) | ⟨a, ha, rfl, hbd⟩
      · omega
      · exact absurd rfl hp
      · obtain ⟨cs, tt, lh, hcs, hbound⟩ := hbd rfl
        rcases hsim.own hb with ⟨_, _, _, hn⟩ | ⟨a', ha', hsp, cs', t', lo, hi', hcs', hfz, hcells⟩
        · rw [ha] at hn; simp at hn
        · rw [ha] at ha'; simp at ha'; subst ha'
          rw [hcs] at hcs'; simp at hcs'; obtain ⟨rfl, rfl, rfl⟩ := hcs'
          simp only [Nat.zero_mul, Nat.zero_add, add_zero'] at hbound ⊢
          rw [hes0] at hbound
          have hm1 : (n + U.len ys) * i.size ≤ cap * i.size := Nat.mul_le_mul_right _ hroom
          rw [Nat.add_mul] at hm1
          have hfit : a.off + n * i.size + news.length ≤ cs.size := by omega
          have ha3 : a = ⟨a.block, a.off, none⟩ := by cases a; simp at hsp ⊢; exact hsp
          have hrun := run_app_room (w := w) (ty := ty) (n := n) (cap := cap) (m := U.len ys) (c := c) (b := a.block) (off := a.off) (B := B) ht hu hi hnl hB hroom (fun j hj => by
            have : a.off + n * i.size + j < cs.size := by omega
            simp [World.cell?, hcs, this]) (fun j hj => by
            simp [World.frozen?, hcs]
            intro h1
            rcases hfz with hfz | hfz <;> omega) (cells_one_all hnews)
          rw [← ha3] at hrun
          obtain ⟨cs2, hc2, hl2⟩ := setCells_at news (a.off + n * i.size) w cs hcs hfit
          obtain ⟨q1, q2, q3, q4⟩ := setCells_rest a.block news (a.off + n * i.size) w
          have hsz2 : cs2.size = cs.size := by
            have := congrArg List.length hl2
            simp at this; omega
          refine ⟨_, _, _, hrun, ⟨rfl, _, hpSet_self .., Nat.le_refl _, fun _ _ x hx => ?_⟩, .chg (k' := .row r') (g' := g + 1) (a' := a) hsim hb (fun k ob hk hne => ?_) (fun a1 ha1 cs1 t1 fr1 hcs1 => ?_) ⟨hsp, cs2, tt, lo, hi', hc2, by rw [hsz2]; exact hfz, fun j cc hj => ?_⟩ (.inl ⟨a, ha, rfl⟩) (by rw [q1]; exact Nat.le_refl _) q2 q3 q4 (.inr ⟨Nat.lt_succ_self _, ⟨r', rfl⟩, fun cs hcs => by simp at hcs⟩)⟩
          · simp at hx; subst hx
            rw [hlr]
            refine ⟨by omega, _, _, rfl, hroom, fun _ => by omega, .inr ⟨_, phiSet_self .., by simp [Addr.add], fun _ => ⟨cs2, tt, _, hc2, ?_⟩⟩⟩
            rw [htr, hes0, hsz2]; simpa using hbound
          · rw [setCells_other (fun e => hne a ha e.symm)]; exact hk
          · rw [ha] at ha1; simp at ha1; subst ha1
            rw [hcs] at hcs1; simp at hcs1; obtain ⟨rfl, rfl, rfl⟩ := hcs1
            exact ⟨cs2, tt, _, hc2, by omega⟩
          · have hget : cs2[a.off + j]? = (cs.toList.take (a.off + n * i.size) ++ news ++ cs.toList.drop (a.off + n * i.size + news.length))[a.off + j]? := by
              rw [← hl2]; simp
            rw [hget]
            rw [hfl, hes0] at hj
            have hfl0 := flat_len (U := U) r0
            rw [hes0] at hfl0
            have hm2 : n * i.size ≤ U.len r0 * i.size := Nat.mul_le_mul_right _ hle
            rcases Nat.lt_or_ge j (n * i.size) with hjq | hjq
            · rw [List.getElem?_append_left (by simp; omega), List.getElem?_take, if_pos hjq] at hj
              rw [List.append_assoc, List.getElem?_append_left (by simp; omega), List.getElem?_take, if_pos (by omega)]
              simpa using hcells j cc hj
            · rw [List.getElem?_append_right (by simp; omega)] at hj
              rw [List.append_assoc, List.getElem?_append_right (by simp; omega)]
              simp only [List.length_take, Array.length_toList] at hj ⊢
              rw [Nat.min_eq_left (by omega)] at hj
              rw [Nat.min_eq_left (by omega), show a.off + j - (a.off + n * i.size) = j - n * i.size by omega]
              obtain ⟨v, h1, h2⟩ := hnews.get hj
              exact ⟨v, by rw [List.getElem?_append_left (List.getElem?_eq_some_iff.1 h1).1]; exact h1, h2⟩

theorem app_in {b g n c : Nat} {r0 r' ys : R} {v : Value} {B : Option Addr} {news : List Value} (hb : h b = some ⟨.row r0, g, 2⟩) (hes0 : U.esz (U.tag r0) = i.size) (hv : SlOk U φ w b 2 r0 0 n v) (htr : U.tag r' = U.tag r0) (hty : U.tag ys = U.tag r0)
    (hc : U.cells r' = (U.cells r0).take n ++ U.cells ys ++ (U.cells r0).drop (n + U.len ys)) (hfits : n + U.len ys ≤ U.len r0) (hy : NewsOk U φ h w ys B news) :
    ∃ val φ' w', (Builtin.append_ #[t, u] ty #[v, .slice B (U.len ys) c]).run P w = .ok val w' ∧ RelV U φ' (hpSet h b ⟨.row r', g, 2⟩) w' (.c (.sc b g 0 (n + U.len ys))) val ∧ Stp U φ h w φ' (hpSet h b ⟨.row r', g, 2⟩) w' [b] := by
  obtain ⟨hnews, hB⟩ := hy
  have hes : U.esz (U.tag ys) = i.size := by rw [hty, hes0]
  have hnl : news.length = U.len ys * i.size := by rw [← hnews.1, flat_len, hes]
  obtain ⟨hle, A, cap, rfl, hnc, hcap, hpl⟩ := hv
  simp only [Nat.zero_add] at hle hcap
  have hlr : U.len r' = U.len r0 := by rw [U.len_eq, hc, List.length_append, List.length_append, List.length_take, List.length_drop, ← U.len_eq, ← U.len_eq]; omega
  have hfl : flat U (.row r') = (flat U (.row r0)).take (n * i.size) ++ flat U (.row ys) ++ (flat U (.row r0)).drop (n * i.size + (flat U (.row ys)).length) := by
    show (U.cells r').flatten = _
    rw [hc, List.flatten_append, List.flatten_append, flatten_take (e := i.size) n _ (fun x hx => by rw [U.tag_esz r0 x hx, hes0]), flatten_drop (e := i.size) _ _ (fun x hx => by rw [U.tag_esz r0 x hx, hes0])]
    rw [flat_len, hes, Nat.add_mul]
    rfl
  rcases Nat.eq_zero_or_pos (U.len ys) with h0 | h0
  · have hys : U.cells ys = [] := List.eq_nil_of_length_eq_zero (by rw [← U.len_eq]; exact h0)
    have hceq : U.cells r' = U.cells r0 := by
      rw [hc, hys, h0, List.append_nil, Nat.add_zero, List.take_append_drop]
    rw [h0]
    refine ⟨_, _, _, run_app_none ht hu hi hnc, ⟨rfl, _, hpSet_self .., Nat.le_refl _, fun _ _ x hx => ?_⟩, .bump hsim hb (Nat.le_refl _) (by simp [flat, hceq]) ⟨r0, r', rfl, rfl, hlr, htr⟩⟩
    simp at hx; subst hx
    refine ⟨by omega, A, cap, rfl, hnc, fun e => by rw [hlr]; simpa using hcap trivial, ?_⟩
    rw [htr]
    exact hpl
  · have hroom : n + U.len ys ≤ cap := by have := hcap trivial; omega
    rcases hpl with (hp | ⟨_, hp⟩) | ⟨a, ha, rfl, hbd⟩
    · omega
    · exact absurd rfl hp
    · obtain ⟨cs, tt, lh, hcs, hbound⟩ := hbd rfl
      have hfl0 := flat_len (U := U) r0
      rw [hes0] at hfl0
      have hfly := flat_len (U := U) ys
      rw [hes] at hfly
      have hm1 : (n + U.len ys) * i.size ≤ U.len r0 * i.size := Nat.mul_le_mul_right _ hfits
      rw [Nat.add_mul] at hm1
      obtain ⟨hsp, p1, p2, p3⟩ := Stp.wr (q := n * i.size) (k' := .row r') hsim hb ha hnews (by rw [hfl0, hfly]; omega) hfl (fun x hx => by simp at hx; subst hx; exact ⟨r0, rfl, hlr, htr⟩) (fun cs hcs => by simp at hcs)
      have ha3 : a = ⟨a.block, a.off, none⟩ := by cases a; simp at hsp ⊢; exact hsp
      have hrun := run_app_room (w := w) (ty := ty) (n := n) (cap := cap) (m := U.len ys) (c := c) (b := a.block) (off := a.off) (B := B) ht hu hi hnl hB hroom p1 p2 (cells_one_all hnews)
      rw [← ha3] at hrun
      simp only [Nat.zero_mul, Nat.zero_add, add_zero'] at hbound ⊢
      refine ⟨_, _, _, hrun, ⟨rfl, _, hpSet_self .., Nat.le_refl _, fun _ _ x hx => ?_⟩, p3⟩
      simp at hx; subst hx
      have hsz : a.off + n * i.size + news.length ≤ cs.size := by
        have : (n + U.len ys) * i.size ≤ cap * i.size := Nat.mul_le_mul_right _ hroom
        rw [hes0] at hbound
        rw [Nat.add_mul] at this
        omega
      obtain ⟨cs2, hc2, hl2⟩ := setCells_at news (a.off + n * i.size) w cs hcs hsz
      have hsz2 : cs2.size = cs.size := by
        have := congrArg List.length hl2
        simp at this; omega
      refine ⟨by omega, _, _, rfl, hroom, fun _ => by rw [hlr]; simpa using hcap trivial, .inr ⟨a, phiSet_self .., by simp [Addr.add], fun _ => ⟨cs2, tt, lh, hc2, ?_⟩⟩⟩
      rw [htr, hsz2]; simpa using hbound
end
end
end Go.Eng
/- The engine, part 15: append as an operation; all operations that call nobody. -/
namespace Go.Eng
section
variable {R : Type} {U : RowU R} {P : Program} {tagT : TypeId → Option Nat} {ρ : Type}
variable {fr : Fr} {L : Heap R} {o : Oper} {K : KV R ρ} {r : ρ}

theorem lit_nil {tag : Nat} {ys : R} (h : U.lit tag [] = some ys) : U.len ys = 0 ∧ flat U (.row ys) = [] := by
  obtain ⟨_, hc⟩ := U.lit_eq _ _ _ h
  exact ⟨by rw [U.len_eq, hc]; rfl, by simp [flat, hc]⟩

theorem news_ok {tag : Nat} {y : C} {ys : R} {φ : Phi} {h : Hp R} {w : World} {v : Value} (hy : (match y with | .nils _ => U.lit tag [] | y => rowOf U L y) = some ys) (hs : Sim U φ h w) (hr : RelC U φ h w y v) (hA : ∀ b ∈ blkOf y, h b = L[b]?) :
    ∃ B c news, v = .slice B (U.len ys) c ∧ NewsOk U φ h w ys B news := by
  split at hy
  · obtain ⟨h0, hf⟩ := lit_nil hy
    have hv : v = .slice none 0 0 := hr
    exact ⟨none, 0, [], by rw [hv, h0], by rw [hf]; exact .nil, .inl h0⟩
  · obtain ⟨B, c, rfl, _, hc⟩ := slice_cells hs hr hy hA
    obtain ⟨vs, h1, _, h2⟩ := cells_list rfl hc
    exact ⟨B, c, vs, rfl, h1, h2⟩

theorem ok_app (hT : TagOk P U tagT) {X Y : Operand} {x y : Opd} {c : Call} {t u e e' by_ tag : Nat} {t1 t2 : Option TypeId} (ho : o.op = .call c) (hc : c.callee = .builtin .append) (ha : c.args.toList = [X, Y]) (hat : c.argTypes.toList = [t, u]) (hut : P.underlying t = some (.slice e)) (huu : P.underlying u = some (.slice e'))
    (hg : tagT e = some tag) (hby : byT P e = some by_) (hx : ofOp P tagT t1 X = some x) (hy : ofOp P tagT t2 Y = some y)
    (hK : evOp U fr L (.app tag by_ x y) K = some r) : Res P U fr L (.app tag by_ x y) o K r := by
  simp only [evOp] at hK
  obtain ⟨i, z, hi, hes, hpos, hbp, hz, hzs⟩ := hT.ok e tag hg
  have hbe : by_ = i.bytes := by unfold byT at hby; rw [hi] at hby; simpa using hby.symm
  subst hbe
  have hargs : c.args = #[X, Y] := by cases hq : c.args; simp [hq] at ha; subst ha; rfl
  have hats : c.argTypes = #[t, u] := by cases hq : c.argTypes; simp [hq] at hat; subst hat; rfl
  have hexec : ∀ (a : Act) (w w' : World) (val : Value), (Builtin.append_ #[t, u] o.type #[a.eval X, a.eval Y]).run P w = .ok val w' → (execOp a.eval o).run P w = .ok (.value val) w' := by
    intro a w w' val h
    simp [execOp, ho, resolve, hc, hargs, hats, invoke, builtin, h]
  split at hK
  · rename_i xc yc ex ey
    split at hK
    · rename_i ys n hys hn
      split at hK
      · simp at hK
      · rename_i htags
        have htx : tagIs U tag L xc = true := by cases h : tagIs U tag L xc <;> simp_all
        have hty : U.tag ys = tag := by
          rcases hq : (U.tag ys == tag) with _ | _
          · exact absurd (.inr hq) htags
          · simpa using hq
        have hesy : U.esz (U.tag ys) = i.size := by rw [hty, hes]
        obtain ⟨hb, hK1⟩ := cond_none hK
        clear hK
        simp only [decide_eq_true_eq] at hb
        -- a new row
        have hnew : ∀ (pre : List Nat), n = 0 → (∀ (h : Hp R) (φ : Phi) (w : World) (v : Value), RelC U φ h w xc v → (∀ b ∈ pre, h b = L[b]?) → Sim U φ h w → ∃ A, v = .slice A 0 0) → K (.c (.sl L.length 0)) (L ++ [⟨.row ys, 0, 2⟩]) (L.length :: (pre ++ blkOf yc)) [L.length] = some r → Res P U fr L (.app tag i.bytes x y) o K r := by
          intro pre hn0 hval hk
          subst hn0
          refine ⟨_, _, _, _, hk, fun b hb => by simp at hb; simp [hb], fun b hb => ?_, by simp, fun h φ w a hA hs hsim => ?_⟩
          · have : b ≠ L.length := by simpa using hb
            rcases Nat.lt_or_ge b L.length with h | h
            · rw [List.getElem?_append_left h]
            · rw [List.getElem?_append_right h, List.getElem?_eq_none h, List.getElem?_eq_none]
              simp; omega
          · have hA' : ∀ b ∈ blkOf yc, h b = L[b]? := fun b hb => hA b (by simp [hb])
            have hA2 : ∀ b ∈ pre, h b = L[b]? := fun b hb => hA b (by simp [hb])
            have hn : h L.length = none := by rw [hA _ (by simp)]; exact List.getElem?_eq_none (Nat.le_refl _)
            have hrx : RelC U φ h w xc (a.eval X) := ev_ok hx hs sub_l ex
            obtain ⟨A, hva⟩ := hval h φ w _ hrx hA2 hsim
            obtain ⟨B, cc, news, hvb, hnews⟩ := news_ok hys hsim (ev_ok hy hs sub_r ey) hA'
            obtain ⟨val, φ', w', h1, h2, h3⟩ := app_new (ty := o.type) (A := A) (c := cc) hut huu hi hz hpos hbp hzs hsim hesy hnews (by simpa using hb) hn
            rw [upd_append]
            exact .val (hexec _ _ _ _ (by rw [hva, hvb]; exact h1)) h2 h3
        -- a row of our own
        have hown : ∀ (b g k : Nat) (r0 r' : R) (cx : C), own L b = some (.row r0, g) → U.tag r0 = tag → (∀ (h : Hp R) (φ : Phi) (w : World) (v : Value), h b = some ⟨.row r0, g, 2⟩ → RelC U φ h w xc v → SlOk U φ w b 2 r0 0 n v) →
            (∀ (h : Hp R) (φ : Phi) (w : World) (v : Value) (B : Option Addr) (c : Nat) (news : List Value), Sim U φ h w → h b = some ⟨.row r0, g, 2⟩ → SlOk U φ w b 2 r0 0 n v → NewsOk U φ h w ys B news →
              ∃ val φ' w', (Builtin.append_ #[t, u] o.type #[v, .slice B (U.len ys) c]).run P w = .ok val w' ∧ RelV U φ' (hpSet h b ⟨.row r', k, 2⟩) w' (.c cx) val ∧ Stp U φ h w φ' (hpSet h b ⟨.row r', k, 2⟩) w' [b]) →
            K (.c cx) (setBlk L b (.row r') k) (b :: blkOf yc) [b] = some r → Res P U fr L (.app tag i.bytes x y) o K r := by
          intro b g k r0 r' cx how htr hsl hdo hk
          have hL := own_some how
          have hbl : b < L.length := (List.getElem?_eq_some_iff.1 hL).1
          refine ⟨_, _, _, _, hk, fun b hb => by simp at hb; simp [hb], fun b' hb' => by simp [setBlk, List.getElem?_set]; intro e; simp at hb'; exact absurd e.symm hb', by simp [setBlk], fun h φ w a hA hs hsim => ?_⟩
          have hA' : ∀ b ∈ blkOf yc, h b = L[b]? := fun b hb => hA b (by simp [hb])
          have hhb : h b = some ⟨.row r0, g, 2⟩ := by rw [hA b (by simp), hL]
          obtain ⟨B, cc, news, hvb, hnews⟩ := news_ok hys hsim (ev_ok hy hs sub_r ey) hA'
          obtain ⟨val, φ', w', h1, h2, h3⟩ := hdo h φ w (a.eval X) B cc news hsim hhb (hsl h φ w _ hhb (ev_ok hx hs sub_l ex)) hnews
          rw [setBlk, upd_set h L b _ hbl]
          exact .val (hexec _ _ _ _ (by rw [hvb]; exact h1)) h2 h3
        split at hK1
        · exact hnew [] (by simpa [lenOf] using hn.symm) (fun h φ w v hr _ _ => ⟨none, hr⟩) hK1
        · rename_i b g lo
          have hrow : ∃ row m, L[b]? = some ⟨.row row, g, m⟩ ∧ m ≠ 0 ∧ n = 0 := by
            simp only [lenOf] at hn
            split at hn
            · rename_i row g' m hb0
              split at hn
              · simp at hn
              · split at hn
                · rename_i hm hgg; subst hgg
                  exact ⟨row, m, hb0, hm, by simpa using hn.symm⟩
                · simp at hn
            · simp at hn
          obtain ⟨row, m, hb0, hm, hn0⟩ := hrow
          refine hnew [b] hn0 (fun h φ w v hr hA _ => ?_) hK1
          obtain ⟨_, A, rfl, _⟩ := rel_sf (w := w) hr (by rw [hA b (by simp), hb0]) hm
          exact ⟨A, rfl⟩
        · rename_i b g
          split at hK1
          · rename_i r0 g' how
            split at hK1
            · rename_i hgg; subst hgg
              split at hK1
              · rename_i r' happ
                obtain ⟨a1, a2, a3⟩ := U.app_eq _ _ _ happ
                have hL := own_some how
                have htr : U.tag r0 = tag := tagIs_row htx hL (.inl rfl)
                have hnn : n = U.len r0 := by simp [lenOf, hL] at hn; exact hn.symm
                refine hown b g' (g' + 1) r0 r' _ how htr (fun h φ w v hhb hr => by rw [hnn]; exact rel_sl hr hhb (by simp)) (fun h φ w v B cc news hsim hhb hsl hnews => ?_) hK1
                exact app_bump hut huu hi hz hpos hbp hzs hsim hhb (by rw [htr, hes]) hsl a1 a2 (by rw [a3, List.take_of_length_le (by rw [← U.len_eq]; omega)]) (.inl hnn) hnews hb
              · simp at hK1
            · simp at hK1
          · simp at hK1
        · rename_i b g n'
          split at hK1
          · rename_i r0 g' how
            split at hK1
            · rename_i hgg; subst hgg
              have hL := own_some how
              have htr : U.tag r0 = tag := tagIs_row htx hL (.inr (.inl ⟨_, _, rfl⟩))
              have hnn : n' = n := by simp [lenOf, hL] at hn; exact hn
              subst hnn
              rcases cond_some hK1 with ⟨hfit, hK2⟩ | ⟨hfit, hK2⟩
              · simp only [decide_eq_true_eq] at hfit
                split at hK2
                · rename_i r' hovw
                  obtain ⟨a1, a2, a3⟩ := U.ovw_eq _ _ _ _ hfit hovw
                  refine hown b g' g' r0 r' _ how htr (fun h φ w v hhb hr => rel_sc hr hhb (by simp)) (fun h φ w v B cc news hsim hhb hsl hnews => ?_) hK2
                  exact app_in hut huu hi hz hpos hbp hzs hsim hhb (by rw [htr, hes]) hsl a1 a2 a3 hfit hnews
                · simp at hK2
              · simp only [decide_eq_false_iff_not] at hfit
                split at hK2
                · rename_i r' happ
                  obtain ⟨a1, a2, a3⟩ := U.app_eq _ _ _ happ
                  obtain ⟨c1, c2⟩ := U.cut_eq r0 0 n'
                  refine hown b g' (g' + 1) r0 r' _ how htr (fun h φ w v hhb hr => rel_sc hr hhb (by simp)) (fun h φ w v B cc news hsim hhb hsl hnews => ?_) hK2
                  exact app_bump hut huu hi hz hpos hbp hzs hsim hhb (by rw [htr, hes]) hsl (by rw [a1, c1]) (by rw [a2, c1]) (by rw [a3, c2, List.drop_zero]) (.inr (by omega)) hnews hb
                · simp at hK2
            · simp at hK1
          · simp at hK1
        · simp at hK1
    · simp at hK
  · simp at hK
end
end Go.Eng
/- The engine, part 15n: tests for nil, slices of slices that are written out, clear. -/
namespace Go.Eng
set_option linter.unusedSectionVars false
section
variable {R : Type} {U : RowU R} {P : Program} {tagT : TypeId → Option Nat} {ρ : Type}
variable {fr : Fr} {L : Heap R} {o : Oper} {K : KV R ρ} {r : ρ}

theorem ok_isnil {X : Operand} {x : Opd} {t e u : Nat} {tt : Option TypeId} (ho : o.op = .binOp .eql t X (.const (.slice none 0 0)) u) (hu : P.underlying t = some (.slice e)) (hx : ofOp P tagT tt X = some x)
    (hK : evOp U fr L (.isnil x) K = some r) : Res P U fr L (.isnil x) o K r := by
  have run : ∀ (a : Act) (w : World) A n c, a.eval X = .slice A n c → (execOp a.eval o).run P w = .ok (.value (.bool A.isNone)) w := by
    intro a w A n c hv
    have hc : a.eval (.const (.slice none 0 0)) = .slice none 0 0 := rfl
    simp [execOp, ho, hv, hc, eqGuard, Go.Lib.run_eql_slice_nil w t e A n c 0 0 hu]
  simp only [evOp] at hK
  split at hK
  · rename_i tg e1
    refine .read hK fun h φ w a hA hs _ => ?_
    have hv : a.eval X = .slice none 0 0 := ev_ok hx hs (fun _ h => h) e1
    exact ⟨_, run a w _ _ _ hv, rfl⟩
  · rename_i c _ e1
    split at hK
    · rename_i n hl
      refine .read hK fun h φ w a hA hs _ => ?_
      have hr := ev_ok hx hs (fun _ h => h) e1
      obtain ⟨A, cap, hv⟩ := len_val hl hA hr
      refine ⟨_, run a w _ _ _ hv, A.isNone, rfl, fun hnone => ?_⟩
      have hAn : A = none := by simpa using hnone
      subst hAn
      rcases lenOf_some hl with ⟨t', rfl, rfl⟩ | ⟨b, g, row, m, hb, hm, hbk, hc⟩
      · rfl
      · have hb' : h b = some ⟨.row row, g, m⟩ := by rw [hA b (by rw [hbk]; simp), hb]
        have sl : ∀ {lo n : Nat}, SlOk U φ w b m row lo n (a.eval X) → n = 0 := by
          intro lo n hs
          obtain ⟨h0, A', cap', hv', h1, h2, h3⟩ := hs
          rw [hv] at hv'
          simp at hv'
          obtain ⟨rfl, e2, e3⟩ := hv'
          rcases h3 with (h3 | ⟨h3, _⟩) | ⟨a', _, h4, _⟩
          · omega
          · exact h3
          · simp at h4
        rcases hc with ⟨rfl, rfl⟩ | ⟨lo, rfl⟩ | ⟨lo, rfl⟩
        · exact sl (rel_sl hr hb' hm)
        · exact sl (rel_sc hr hb' hm)
        · obtain ⟨_, A', hv', h3⟩ := rel_sf (w := w) hr hb' hm
          rw [hv] at hv'; simp at hv'
          obtain ⟨rfl, _⟩ := hv'
          rcases h3 with h3 | ⟨a', _, h4⟩
          · exact h3
          · simp at h4
    · simp at hK
  · simp at hK

theorem run_app_zeros {w : World} {t u ty e : Nat} {i : TypeInfo} {z : Value} {kk : IntKind} (ht : P.underlying t = some (.slice e)) (hu : P.underlying u = some (.int kk)) (hi : P.info? e = some i) (hz : i.zero = some z) {k : Int} (h0 : 0 < k) (hb : k * i.bytes ≤ 140737488355328) (hbp : 0 < i.bytes) (hsz : 0 < i.size) :
    (Builtin.append_ #[t, u] ty #[.slice none 0 0, .int .i64 k]).run P w =
      .ok (.slice (some ⟨w.heap.size, 0, none⟩) k.toNat (grownCap w k.toNat 0 e)) (w.drew.alloc (.cells (Builtin.zeroCells z.cells k.toNat ++ Builtin.zeroCells z.cells (grownCap w k.toNat 0 e - k.toNat)) e)) := by
  have hk : k ≤ 140737488355328 := by
    have : k * 1 ≤ k * (i.bytes : Int) := Int.mul_le_mul_of_nonneg_left (by omega) (by omega)
    omega
  have hw := wrap_small k (by omega) (by omega)
  have hn0 : ¬ k.toNat = 0 := by omega
  have hn0' : ¬ k.toNat ≤ 0 := by omega
  have hl0 : ¬ k < 0 := by omega
  have h48 : ¬ (281474976710656 < k * (i.bytes : Int)) := by omega
  have hbn : k.toNat * i.bytes ≤ 140737488355328 := by
    have : ((k.toNat * i.bytes : Nat) : Int) = k * i.bytes := by rw [Int.natCast_mul]; congr 1; omega
    omega
  have h63 : ¬ (9223372036854775807 < (k.toNat : Int)) := by omega
  have hfit := Builtin.nextslicecap
  have h48' : ¬ (281474976710656 < Builtin.nextslicecap k.toNat 0 * i.bytes) := by
    have := growslice_fits (need := k.toNat) (old := 0) (bytes := i.bytes) (by omega) hbn
    omega
  have hmul : ¬ (k.toNat * i.size = 0) := by
    intro e
    rcases Nat.mul_eq_zero.1 e with e | e <;> omega
  clear hfit
  have hk0 : ¬ k ≤ 0 := by omega
  have hmax : ¬ (9223372036854775807 < max k 0) := by omega
  simp [Builtin.append_, run_underlying ht, run_underlying hu, sizeOf, typeInfo, zeroValue, hi, hz, asInt, asIntOf, hk0, hmax, hw, hl0, h48, hn0, hn0', h63, h48', Question.forced, newRow, grownCap, Builtin.firstCells, hmul]

theorem ok_apz (hT : TagOk P U tagT) {X Y : Operand} {x y : Opd} {c : Call} {t u e by_ g : Nat} {kk : IntKind} {z : List C} {t1 t2 : Option TypeId} (ho : o.op = .call c) (hc : c.callee = .builtin .append) (ha : c.args.toList = [X, Y]) (hat : c.argTypes.toList = [t, u]) (hut : P.underlying t = some (.slice e)) (huu : P.underlying u = some (.int kk))
    (hg : tagT e = some g) (hby : byT P e = some by_) (hz : zeroT P tagT e = some z) (hx : ofOp P tagT t1 X = some x) (hy : ofOp P tagT t2 Y = some y)
    (hK : evOp U fr L (.apz g by_ z x y) K = some r) : Res P U fr L (.apz g by_ z x y) o K r := by
  have hargs : c.args = #[X, Y] := by cases hq : c.args; simp [hq] at ha; subst ha; rfl
  have hats : c.argTypes = #[t, u] := by cases hq : c.argTypes; simp [hq] at hat; subst hat; rfl
  simp only [evOp] at hK
  split at hK
  · rename_i tg k e1 e2
    obtain ⟨h0, hK1⟩ := cond_none hK
    obtain ⟨hb, hK2⟩ := cond_none hK1
    clear hK hK1
    replace h0 := of_decide_eq_true h0
    replace hb := of_decide_eq_true hb
    split at hK2
    · rename_i row hrow
      obtain ⟨htag, hcells⟩ := U.rep_eq _ _ _ _ hrow
      obtain ⟨i, zv, hi, hv, hsz⟩ := zeroT_some hz
      obtain ⟨i', zv', hi', hisz, hpos, hbp, hv', hzs⟩ := hT.ok e g hg
      rw [hi] at hi'; simp at hi'; subst hi'
      rw [hv] at hv'; simp at hv'; subst hv'
      have hbe : by_ = i.bytes := by unfold byT at hby; rw [hi] at hby; simpa using hby.symm
      subst hbe
      refine .new hK2 fun h φ w a hs hsim => ?_
      have hzr := sameZ_ok (U := U) (φ := φ) (h := h) (w := w) _ _ hsz
      have hzl : z.length = i.size := by have := hzr.1; simp at this; omega
      have v1 : a.eval X = .slice none 0 0 := ev_ok hx hs sub_l e1
      have v2 := relInt (ev_ok hy hs sub_r e2)
      have hrun := run_app_zeros (w := w) (ty := o.type) hut huu hi hv h0 hb hbp hpos
      have hlr : U.len row = k.toNat := by rw [U.len_eq, hcells]; simp
      have hge := grownCap_ge w k.toNat 0 e
      refine ⟨_, w.drew.alloc (.cells (Builtin.zeroCells zv.cells k.toNat ++ Builtin.zeroCells zv.cells (grownCap w k.toNat 0 e - k.toNat)) e), _, e, 0, 0, by simp [execOp, ho, resolve, hc, hargs, hats, invoke, builtin, v1, v2, hrun]; rfl, rfl, rfl, rfl, rfl, .inl rfl, fun j c' hj => ?_, fun φ' h' hφ hh => ?_⟩
      · simp only [flat, hcells] at hj
        obtain ⟨u, h3, h4⟩ := (made_rel (n := k.toNat) hzr hzl).get hj
        have e3 : (madeCells zv.cells (k.toNat * i.size)).toList = (Builtin.zeroCells zv.cells k.toNat).toList := by simp [madeCells, Builtin.zeroCells, hzs]
        rw [e3] at h3
        have hlt := (List.getElem?_eq_some_iff.1 h3).1
        exact ⟨u, by rw [Array.getElem?_append_left (by simpa using hlt)]; simpa using h3, h4⟩
      · refine newSl (w := w) (lh := (0, 0)) rfl hφ hh hlr hge ?_
        rw [htag, ← hisz, Array.size_append]
        have s1 : ∀ m, (Builtin.zeroCells zv.cells m).size = m * i.size := fun m => by simp [Builtin.zeroCells, hzs]
        rw [s1, s1, ← Nat.add_mul]
        exact Nat.mul_le_mul_right _ (by omega)
    · simp at hK2
  · simp at hK

theorem freeze_self {w : World} {b n : Nat} {cs : Array Value} {t : TypeId} {lo hi : Nat} (hb : w.heap[b]? = some (.cells cs t (lo, hi))) : (w.freeze ⟨b, n, none⟩ 1).heap[b]? = some (.cells cs t (if lo == hi then (n, n + 1) else (min lo n, max hi (n + 1)))) := by
  unfold World.freeze
  simp only [Nat.one_ne_zero, if_false, Array.getElem?_modify, if_true, hb, Option.map_some]
theorem freeze_self' {w : World} {b : Nat} {cs : Array Value} {t : TypeId} {lo hi : Nat} (hb : w.heap[b]? = some (.cells cs t (lo, hi))) (hf : hi = lo ∨ cs.size ≤ lo) : ∃ lo' hi', (w.freeze ⟨b, cs.size, none⟩ 1).heap[b]? = some (.cells cs t (lo', hi')) ∧ cs.size ≤ lo' := by
  have h := freeze_self (n := cs.size) hb
  by_cases e : lo = hi
  · subst e; simp at h; exact ⟨_, _, h, Nat.le_refl _⟩
  · have e2 : (lo == hi) = false := by simpa using e
    rw [e2] at h
    simp at h
    exact ⟨_, _, h, by omega⟩
theorem freeze_other {w : World} {b n i : Nat} (hi : i ≠ b) : (w.freeze ⟨b, n, none⟩ 1).heap[i]? = w.heap[i]? := by
  unfold World.freeze
  simp only [Nat.one_ne_zero, if_false, Array.getElem?_modify, if_neg hi.symm]
theorem freeze_rest (w : World) (b n : Nat) : (w.freeze ⟨b, n, none⟩ 1).heap.size = w.heap.size ∧ (w.freeze ⟨b, n, none⟩ 1).os = w.os ∧ (w.freeze ⟨b, n, none⟩ 1).tape = w.tape ∧ (w.freeze ⟨b, n, none⟩ 1).output = w.output := by
  unfold World.freeze
  simp
theorem ok_cid {X : Operand} {x : Opd} {s e : Nat} {tt : Option TypeId} (ho : o.op = .convert s s X) (hu : P.underlying s = some (.slice e)) (he : P.underlying e = some (.int .u8)) (hx : ofOp P tagT tt X = some x)
    (hK : evOp U fr L (.cid x) K = some r) : Res P U fr L (.cid x) o K r := by
  simp only [evOp] at hK
  split at hK
  · rename_i b g e1
    split at hK
    · rename_i row g' hown
      split at hK
      · rename_i hg
        subst hg
        obtain ⟨hpos, hK⟩ := cond_none hK
        replace hpos := of_decide_eq_true hpos
        have hb := own_some hown
        refine ⟨_, _, _, _, hK, fun _ h => h, fun _ _ => rfl, Nat.le_refl _, fun h φ w a hA hs hsim => ?_⟩
        have hb' : h b = some ⟨.row row, g', 2⟩ := by rw [hA b (by simp), hb]
        have hr : RelV U φ h w (.c (.sl b g')) (a.eval X) := ev_ok hx hs (fun _ h => h) e1
        obtain ⟨h0, A, cap, hv, hnc, hcap, hpl⟩ := rel_sl hr hb' (by simp)
        have hupd : upd h L [b] = hpSet h b ⟨.row row, g', 2⟩ := by
          funext b0
          unfold upd hpSet
          by_cases e : b0 = b
          · subst e; simp [hb]
          · simp [e]
        rw [hupd]
        rcases hpl with (hp | ⟨hp, _⟩) | ⟨ad, had, rfl, hbd⟩
        · omega
        · omega
        · rcases hsim.own hb' with ⟨_, hk, _, hn⟩ | ⟨a', ha', hsp, cs, t, lo, hi, hc, hf, hcells⟩
          · rw [had] at hn; simp at hn
          · rw [had] at ha'; simp at ha'; subst ha'
            have had0 : ad.add (0 * U.esz (U.tag row)) = ⟨ad.block, ad.off, none⟩ := by rw [add_off hsp]; simp
            obtain ⟨lo', hi', hfr, hge⟩ := freeze_self' hc hf
            obtain ⟨q1, q2, q3, q4⟩ := freeze_rest w ad.block cs.size
            have hst : Stp U φ h w (phiSet φ b (some ad)) (hpSet h b ⟨.row row, g', 2⟩) (w.freeze ⟨ad.block, cs.size, none⟩ 1) [b] := by
              refine .chg hsim hb' (fun i ob hob hne => ?_) (fun a0 ha0 cs0 t0 fr0 hcs0 => ?_) ⟨hsp, cs, t, _, _, hfr, .inr hge, hcells⟩ (.inl ⟨ad, had, rfl⟩) (Nat.le_of_eq q1.symm) q2 q3 q4 (.inl ⟨rfl, had, fun r' hr' => ⟨r', hr', rfl, rfl⟩, fun cs' hcs' => ⟨cs', hcs'⟩⟩)
              · rw [freeze_other (fun e => hne ad had e.symm)]; exact hob
              · rw [had] at ha0; simp at ha0; subst ha0
                rw [hc] at hcs0; simp at hcs0; obtain ⟨rfl, rfl, rfl⟩ := hcs0
                exact ⟨cs, t, _, hfr, Nat.le_refl _⟩
            refine .val (val := a.eval X) (φ' := phiSet φ b (some ad)) ?_ (RelV.mono hst.ext hr) hst
            have hsh : w.shape? ad.block = some (t, cs.size) := by unfold World.shape?; rw [hc]
            have hv' : a.eval X = .slice (some ⟨ad.block, ad.off, none⟩) (U.len row) cap := by rw [hv, had0]
            simp [execOp, ho, hv', convert, run_und hu, run_und he, markStringish, hsh]
      · simp at hK
    · simp at hK
  · simp at hK

theorem ok_bsb {t n e : Nat} {pts : Array (Nat × Operand)} {ps : List (Nat × Opd)} {z : List C} (ho : o.op = .buildSlice t n pts) (hu : P.underlying t = some (.slice e)) (hs1 : szT P e = some 1)
    (hz : zeroT P tagT e = some z) (hp : partsS P tagT e pts.toList = some ps) (hK : evOp U fr L (.bsb n z ps) K = some r) : Res P U fr L (.bsb n z ps) o K r := by
  simp only [evOp] at hK
  split at hK
  · simp at hK
  · rename_i hn
    split at hK
    · rename_i es hf
      split at hK
      · rename_i hz1
        obtain ⟨i, zv, hi, hv, hsz⟩ := zeroT_some hz
        have hisz : i.size = 1 := by
          unfold szT at hs1
          rw [hi] at hs1
          simpa using hs1
        rw [hz1] at hf
        refine .new hK fun h φ w a hs hsim => ?_
        have hzr := sameZ_ok (U := U) (φ := φ) (h := h) (w := w) _ _ hsz
        have hzl : zv.cells.size = 1 := by have := hzr.1; simp at this; omega
        obtain ⟨cells', h1, h2⟩ := fillS_ok (e0 := e) (e := 1) (by omega) hs pts.toList ps _ es (madeCells zv.cells (n * 1)) hp (fun p hp n hn => by simp [slots]; exact ⟨_, _, hp, hn⟩) hf (fun x hx => by rw [List.eq_of_mem_replicate hx, hz1]) (made_rel hzr hz1)
        refine ⟨.slice (some ⟨w.heap.size, 0, none⟩) n n, { w with heap := w.heap.push (.cells cells' e) }, cells', e, 0, 0, ?_, rfl, rfl, rfl, rfl, .inl rfl, fun j c' hj => ?_, fun φ' h' hφ hh => ?_⟩
        · have hm : (Array.range (n * i.size)).map (fun x => (if n * i.size = 0 then (#[] : Array Value) else zv.cells)[x % (if n * i.size = 0 then (#[] : Array Value) else zv.cells).size]!) = madeCells zv.cells (n * 1) := by
            rw [hisz]
            by_cases h0 : n = 0
            · subst h0; simp [madeCells, Array.range_zero']
            · simp [h0, madeCells]
          have hfill : Instr.fill (fun j => some (j * i.size, i.size)) (madeCells zv.cells (n * 1)) (pts.map fun (i, x) => (i, a.eval x)).toList = some cells' := by
            rw [Array.toList_map, hisz]; exact h1
          rw [← hm] at hfill
          have hnb : ¬ (n * i.size > 2 ^ 24) := by rw [hisz]; rw [hz1] at hn; omega
          by_cases h0 : n * i.size = 0
          · simp [h0] at hfill
            simp [execOp, ho, Instr.buildSlice, run_und hu, sizeOf, typeInfo, hi, h0, hfill, newRow]
          · simp [h0] at hfill
            simp [execOp, ho, Instr.buildSlice, run_und hu, sizeOf, typeInfo, hi, hnb, h0, run_zero hi hv, hfill, newRow]
        · simp only [flat] at hj
          obtain ⟨u, h3, h4⟩ := h2.get hj
          exact ⟨u, by simpa using h3, h4⟩
        · exact ⟨_, ⟨_, _, _, hh, by simp, _, hφ, by rw [add_zero']⟩, rfl⟩
      · simp at hK
    · simp at hK

theorem ok_idxb {X I : Operand} {x i : Opd} {t e : Nat} {t1 t2 : Option TypeId} (ho : o.op = .indexAddr t X I) (hu : P.underlying t = some (.slice e)) (hs1 : szT P e = some 1) (hx : ofOp P tagT t1 X = some x) (hi : ofOp P tagT t2 I = some i)
    (hK : evOp U fr L (.idxb x i) K = some r) : Res P U fr L (.idxb x i) o K r := by
  simp only [evOp] at hK
  split at hK
  · rename_i b n k kn e1 e2
    split at hK
    · rename_i hlt
      refine .read hK fun h φ w a hA hs _ => ?_
      obtain ⟨ad, ⟨cs, g, m, hb, hm, a0, ha0, hp⟩, hv⟩ := ev_ok hx hs sub_l e1
      have hiv := relInt (ev_ok hi hs sub_r e2)
      simp only [add_zero'] at hp
      simp at hp; subst hp
      refine ⟨.pointer (some (ad.add kn)), ?_, cs, g, m, hb, hm, ad, ha0, rfl⟩
      simp [execOp, ho, hv, hiv, Instr.indexAt, asIntOf, run_und hu, run_szT hs1, hlt, Int.ofNat_eq_natCast]
    · simp at hK
  · simp at hK

/-- 'clear' of elements of any size. -/
theorem run_clear {t e ty : Nat} {i : TypeInfo} {z : Value} (ht : P.underlying t = some (.slice e)) (hi : P.info? e = some i) (hz : i.zero = some z) {b off n c : Nat} {w : World} (hn : 0 < n)
    (hc : ∀ j, j < n * z.cells.size → (w.cell? ⟨b, off + j, none⟩).isSome = true) (hf : ∀ j, j < n * z.cells.size → w.frozen? ⟨b, off + j, none⟩ = false) (h1 : ∀ v ∈ (Builtin.zeroCells z.cells n).toList, v.oneCell' = true) :
    (Builtin.clear_ #[t] ty #[.slice (some ⟨b, off, none⟩) n c]).run P w = .ok (.tuple #[]) (w.setCells b off (Builtin.zeroCells z.cells n).toList) := by
  have hl : (Builtin.zeroCells z.cells n).toList.length = n * z.cells.size := by simp [Builtin.zeroCells]
  have hst := run_storeCells_cells (P := P) b off (Builtin.zeroCells z.cells n).toList 0 w (fun j hj => by rw [Nat.add_zero]; exact hc j (by omega)) (fun j hj => by rw [Nat.add_zero]; exact hf j (by omega)) h1
  simp only [Nat.add_zero] at hst
  obtain ⟨m, rfl⟩ : ∃ m, n = m + 1 := ⟨n - 1, by omega⟩
  simp [Builtin.clear_, run_underlying ht, zeroValue, typeInfo, hi, hz, hst]

theorem ok_clr (hT : TagOk P U tagT) {X : Operand} {x : Opd} {c : Call} {t e g : Nat} {z : List C} {tt : Option TypeId} (ho : o.op = .call c) (hc : c.callee = .builtin .clear) (ha : c.args.toList = [X]) (hat : c.argTypes.toList = [t]) (hu : P.underlying t = some (.slice e)) (hg : tagT e = some g)
    (hz : zeroT P tagT e = some z) (hx : ofOp P tagT tt X = some x) (hK : evOp U fr L (.clr g z x) K = some r) : Res P U fr L (.clr g z x) o K r := by
  have ha' : c.args = #[X] := by apply Array.ext'; simpa using ha
  have hat' : c.argTypes = #[t] := by apply Array.ext'; simpa using hat
  simp only [evOp] at hK
  split at hK
  · rename_i b gg lo n e1
    split at hK
    · rename_i row g' s hown hrep
      split at hK
      · rename_i hge
        subst hge
        obtain ⟨hle, hK⟩ := cond_none hK
        replace hle := of_decide_eq_true hle
        split at hK
        · rename_i htag
          split at hK
          · rename_i r' hov
            have hb : L[b]? = some ⟨.row row, g', 2⟩ := by
              unfold own at hown
              split at hown
              · rename_i k2 g2 hb
                simp at hown; obtain ⟨rfl, rfl⟩ := hown
                exact hb
              · simp at hown
            obtain ⟨hst, hsc⟩ := U.rep_eq _ _ _ _ hrep
            have hsl : U.len s = n := by rw [U.len_eq, hsc, List.length_replicate]
            obtain ⟨htr, _, hcr⟩ := U.ovw_eq row lo s r' (by rw [hsl]; exact hle) hov
            obtain ⟨i, zv, hi, hv, hsz⟩ := zeroT_some hz
            obtain ⟨i', zv', hi', hisz, hpos, _, hv', hzs⟩ := hT.ok e g hg
            rw [hi] at hi'; simp at hi'; subst hi'
            rw [hv] at hv'; simp at hv'; subst hv'
            have hlt := (List.getElem?_eq_some_iff.1 hb).1
            refine ⟨_, _, _, _, hK, fun _ h => h, fun b0 hb0 => ?_, by simp [setBlk], fun h φ w a hA hs hsim => ?_⟩
            · have : b ≠ b0 := fun e => hb0 (by simp [e])
              simp [setBlk, List.getElem?_set_ne this]
            · have hb' : h b = some ⟨.row row, g', 2⟩ := by rw [hA b (by simp), hb]
              have hres : RelV U φ h w (.c (.sc b g' lo n)) (a.eval X) := ev_ok hx hs (fun _ h => h) e1
              obtain ⟨h0, A, cap, hval, hnc, hcap, hpl⟩ := rel_sc hres hb' (by simp)
              have hzr := sameZ_ok (U := U) (φ := φ) (h := h) (w := w) _ _ hsz
              have hzl : z.length = i.size := by have := hzr.1; simp at this; omega
              have hes : U.esz (U.tag row) = i.size := by rw [htag, ← hisz]
              have hlr : U.len r' = U.len row := by
                rw [U.len_eq, hcr, List.length_append, List.length_append, List.length_take, List.length_drop, ← U.len_eq, ← U.len_eq]; omega
              have hupd : upd h (setBlk L b (.row r') g') [b] = hpSet h b ⟨.row r', g', 2⟩ := upd_set h L b _ hlt
              rw [hupd]
              have hrunof : ∀ {w' : World} {val : Value}, (Builtin.clear_ #[t] o.type #[a.eval X]).run P w = .ok val w' → (execOp a.eval o).run P w = .ok (.value val) w' := by
                intro w' val hr
                simp [execOp, ho, resolve, hc, ha', hat', invoke, builtin, hr]
              rcases Nat.eq_zero_or_pos n with hn0 | hn0
              · subst hn0
                have hsn : U.cells s = [] := by rw [hsc]; rfl
                have hceq : U.cells r' = U.cells row := by rw [hcr, hsn, hsl]; simp
                refine .val (val := .tuple #[]) (w' := w) (φ' := φ) (hrunof ?_) ⟨[], rfl, .nil⟩ (.bump hsim hb' (Nat.le_refl _) (by simp [flat, hceq]) ⟨row, r', rfl, rfl, hlr, htr⟩)
                rw [hval]
                cases A <;> simp [Builtin.clear_, run_und hu]
              · rcases hpl with (hp | ⟨hp, _⟩) | ⟨ad, had, rfl, hbd⟩
                · omega
                · omega
                · have hfr := flat_len (U := U) row
                  rw [hes] at hfr
                  have hfs : flat U (.row s) = (List.replicate n z).flatten := by simp [flat, hsc]
                  have hfl : flat U (.row r') = (flat U (.row row)).take (lo * i.size) ++ flat U (.row s) ++ (flat U (.row row)).drop (lo * i.size + (flat U (.row s)).length) := by
                    show (U.cells r').flatten = _
                    rw [hcr, List.flatten_append, List.flatten_append, flatten_take (e := i.size) lo _ (fun x hx => by rw [U.tag_esz row x hx, hes]), flatten_drop (e := i.size) _ _ (fun x hx => by rw [U.tag_esz row x hx, hes])]
                    rw [flat_len, hst, ← hisz, Nat.add_mul]
                    rfl
                  have hvals : All2 (RelC U φ h w) (flat U (.row s)) (Builtin.zeroCells zv.cells n).toList := by
                    have := made_rel (U := U) (n := n) hzr hzl
                    rw [hfs]
                    have e2 : (madeCells zv.cells (n * i.size)).toList = (Builtin.zeroCells zv.cells n).toList := by
                      simp [madeCells, Builtin.zeroCells, hzs]
                    rw [e2] at this
                    exact this
                  have hfsl : (flat U (.row s)).length = n * i.size := by rw [flat_len, hsl, hst, hisz]
                  have hm1 : (lo + n) * i.size ≤ U.len row * i.size := Nat.mul_le_mul_right _ hle
                  rw [Nat.add_mul] at hm1
                  obtain ⟨hsp, p1, p2, p3⟩ := Stp.wr (q := lo * i.size) (k' := .row r') hsim hb' had hvals (by rw [hfr, hfsl]; exact hm1) hfl (fun x hx => by simp at hx; subst hx; exact ⟨row, rfl, hlr, htr⟩) (fun cs hcs => by simp at hcs)
                  have hzc : (Builtin.zeroCells zv.cells n).toList.length = n * zv.cells.size := by simp [Builtin.zeroCells]
                  have haddr : ad.add (lo * U.esz (U.tag row)) = ⟨ad.block, ad.off + lo * i.size, none⟩ := by rw [add_off hsp, hes]
                  refine .val (hrunof ?_) ⟨[], rfl, .nil⟩ p3
                  rw [hval, haddr]
                  exact run_clear hu hi hv hn0 (fun j hj => p1 j (by omega)) (fun j hj => p2 j (by omega)) (cells_one_all hvals)
          · simp at hK
        · simp at hK
      · simp at hK
    · simp at hK
  · simp at hK
end
end Go.Eng
/- The engine, part 16: all operations that call nobody. -/
namespace Go.Eng
section
variable {R : Type} {U : RowU R} {P : Program} {tagT : TypeId → Option Nat} {ρ : Type}
variable {fr : Fr} {L : Heap R} {o : Oper} {K : KV R ρ} {r : ρ} {op : SOp}

theorem evOp_binOp {b : BinOp} {t u : Nat} {X Y : Operand} (ho : o.op = .binOp b t X Y u) (hc : comp1 P tagT o = some op) (hK : evOp U fr L op K = some r) : Res P U fr L op o K r := by
  simp only [comp1, ho] at hc
  split at hc
  · rename_i fs hu
    split at hc
    · simp at hc
    · rename_i hg
      have hg' : P.eqGuardType P.depth t = false := by simpa using hg
      simp only [Option.bind_eq_some_iff] at hc
      obtain ⟨lay, hl, n, hn, hc⟩ := hc
      split at hc
      · simp only [Option.bind_eq_some_iff, Option.map_eq_some_iff] at hc
        obtain ⟨x, hx, y, hy, rfl⟩ := hc
        exact ok_eqs ho (.inl ⟨rfl, rfl⟩) hu hg' hl hx hy hn hK
      · simp only [Option.bind_eq_some_iff, Option.map_eq_some_iff] at hc
        obtain ⟨x, hx, y, hy, rfl⟩ := hc
        exact ok_eqs ho (.inr ⟨rfl, rfl⟩) hu hg' hl hx hy hn hK
      · simp at hc
  · simp only [Option.bind_eq_some_iff, Option.map_eq_some_iff] at hc
    obtain ⟨x, hx, y, hy, rfl⟩ := hc
    exact ok_bin ho hx hy hK
  · simp only [Option.bind_eq_some_iff, Option.map_eq_some_iff] at hc
    obtain ⟨x, hx, y, hy, rfl⟩ := hc
    exact ok_bin ho hx hy hK
  · rename_i hu
    split at hc
    · simp only [Option.bind_eq_some_iff, Option.map_eq_some_iff] at hc
      obtain ⟨x, hx, y, hy, rfl⟩ := hc
      exact ok_eqb ho (.inl ⟨rfl, rfl⟩) hu hx hy hK
    · simp only [Option.bind_eq_some_iff, Option.map_eq_some_iff] at hc
      obtain ⟨x, hx, y, hy, rfl⟩ := hc
      exact ok_eqb ho (.inr ⟨rfl, rfl⟩) hu hx hy hK
    · simp at hc
  · rename_i e hu
    split at hc
    · obtain ⟨x, hx, rfl⟩ := Option.map_eq_some_iff.1 hc
      exact ok_isnil ho hu hx hK
    · simp at hc
  · simp at hc

theorem evOp_convert {s d : Nat} {X : Operand} (ho : o.op = .convert s d X) (hc : comp1 P tagT o = some op) (hK : evOp U fr L op K = some r) : Res P U fr L op o K r := by
  simp only [comp1, ho] at hc
  split at hc
  · rename_i e
    subst e
    split at hc
    · rename_i e hu
      split at hc
      · rename_i he
        obtain ⟨x, hx, rfl⟩ := Option.map_eq_some_iff.1 hc
        exact ok_cid ho hu he hx hK
      · simp at hc
    · rename_i k hu
      obtain ⟨x, hx, rfl⟩ := Option.map_eq_some_iff.1 hc
      exact ok_conv ho hu hu hx hK
    · simp at hc
  split at hc
  · rename_i k0 k h1 h2
    obtain ⟨x, hx, rfl⟩ := Option.map_eq_some_iff.1 hc
    exact ok_conv ho h1 h2 hx hK
  · rename_i e h1 h2
    split at hc
    · rename_i h3
      obtain ⟨x, hx, rfl⟩ := Option.map_eq_some_iff.1 hc
      exact ok_b2s ho h1 h3 h2 hx hK
    · simp at hc
  · rename_i e h1 h2
    split at hc
    · rename_i h3
      obtain ⟨x, hx, rfl⟩ := Option.map_eq_some_iff.1 hc
      exact ok_s2b ho h1 h2 h3 hx hK
    · simp at hc
  · simp at hc

theorem evOp_slice {t : Nat} {X : Operand} {lo hi mx : Option Operand} (hT : TagOk P U tagT) (ho : o.op = .slice t X lo hi mx) (hc : comp1 P tagT o = some op) (hK : evOp U fr L op K = some r) : Res P U fr L op o K r := by
  simp only [comp1, ho] at hc
  split at hc
  · rename_i e hu
    simp only [Option.bind_eq_some_iff, Option.map_eq_some_iff] at hc
    obtain ⟨g, hg, x, hx, lo', hlo, hi', hhi, mx', hmx, rfl⟩ := hc
    exact ok_slc hT ho hu hg hx hlo hhi hmx hK
  · rename_i hu
    split at hc
    · simp at hc
    · rename_i hm
      have hm' : mx = none := by cases mx <;> simp_all
      subst hm'
      simp only [Option.bind_eq_some_iff, Option.map_eq_some_iff] at hc
      obtain ⟨x, hx, lo', hlo, hi', hhi, rfl⟩ := hc
      exact ok_sls ho hu hx hlo hhi hK
  · simp at hc

theorem evOp_call {c : Call} (hT : TagOk P U tagT) (ho : o.op = .call c) (hc : comp1 P tagT o = some op) (hK : evOp U fr L op K = some r) : Res P U fr L op o K r := by
  simp only [comp1, ho] at hc
  split at hc
  · simp only [Option.map_eq_some_iff] at hc
    obtain ⟨xs, _, rfl⟩ := hc
    simp [evOp] at hK
  · simp only [Option.bind_eq_some_iff, Option.map_eq_some_iff] at hc
    obtain ⟨x, _, xs, _, rfl⟩ := hc
    simp [evOp] at hK
  · rename_i hcal
    split at hc
    · rename_i X hargs
      split at hc
      · rename_i e hu
        obtain ⟨t, ht, hu⟩ := Option.bind_eq_some_iff.1 hu
        obtain ⟨x, hx, rfl⟩ := Option.map_eq_some_iff.1 hc
        exact ok_len ho hcal hargs ht hu hx hK
      · rename_i hu
        obtain ⟨t, ht, hu⟩ := Option.bind_eq_some_iff.1 hu
        obtain ⟨x, hx, rfl⟩ := Option.map_eq_some_iff.1 hc
        exact ok_lens ho hcal hargs ht hu hx hK
      · simp at hc
    · simp at hc
  · rename_i hcal
    split at hc
    · rename_i X hargs
      split at hc
      · rename_i e hu
        obtain ⟨t, ht, hu⟩ := Option.bind_eq_some_iff.1 hu
        obtain ⟨x, hx, rfl⟩ := Option.map_eq_some_iff.1 hc
        exact ok_cap ho hcal hargs ht hu hx hK
      · simp at hc
    · simp at hc
  · rename_i hcal
    split at hc
    · rename_i X Y hargs
      simp only [Option.bind_eq_some_iff, Option.map_eq_some_iff] at hc
      obtain ⟨x, hx, y, hy, rfl⟩ := hc
      exact ok_min ho hcal hargs hx hy hK
    · simp at hc
  · rename_i hcal
    split at hc
    · rename_i X Y hargs
      simp only [Option.bind_eq_some_iff, Option.map_eq_some_iff] at hc
      obtain ⟨x, hx, y, hy, rfl⟩ := hc
      exact ok_max ho hcal hargs hx hy hK
    · simp at hc
  · rename_i hcal
    split at hc
    · rename_i X t hargs hat
      simp only [Option.bind_eq_some_iff, Option.map_eq_some_iff] at hc
      obtain ⟨e, he, g, hg, z, hz, x, hx, rfl⟩ := hc
      have hu : P.underlying t = some (.slice e) := by
        unfold elemT at he
        split at he
        · simp at he; subst he; assumption
        · simp at he
      exact ok_clr hT ho hcal hargs hat hu hg hz hx hK
    · simp at hc
  · rename_i hcal
    split at hc
    · rename_i X Y t u hargs hat
      split at hc
      · rename_i e e' hu1 hu2
        simp only [Option.bind_eq_some_iff, Option.map_eq_some_iff] at hc
        obtain ⟨g, hg, by_, hby, x, hx, y, hy, hc⟩ := hc
        split at hc
        · simp at hc; subst hc
          exact ok_app hT ho hcal hargs hat hu1 hu2 hg hby hx hy hK
        · simp at hc
      · rename_i e kk hu1 hu2
        simp only [Option.bind_eq_some_iff, Option.map_eq_some_iff] at hc
        obtain ⟨g, hg, by_, hby, z, hz, x, hx, y, hy, rfl⟩ := hc
        exact ok_apz hT ho hcal hargs hat hu1 hu2 hg hby hz hx hy hK
      · simp at hc
    · simp at hc
  · simp at hc

/-- AN OPERATION THAT WAS EVALUATED DOES WHAT WAS EVALUATED. -/
theorem evOp_ok (hT : TagOk P U tagT) (hc : comp1 P tagT o = some op) (hK : evOp U fr L op K = some r) : Res P U fr L op o K r := by
  cases ho : o.op
  case binOp => exact evOp_binOp ho hc hK
  case convert => exact evOp_convert ho hc hK
  case slice => exact evOp_slice hT ho hc hK
  case call => exact evOp_call hT ho hc hK
  case move X =>
    simp only [comp1, ho, Option.map_eq_some_iff] at hc
    obtain ⟨x, hx, rfl⟩ := hc
    exact ok_mv (.inl ho) hx hK
  case assign X =>
    simp only [comp1, ho, Option.map_eq_some_iff] at hc
    obtain ⟨x, hx, rfl⟩ := hc
    exact ok_mv (.inr ho) hx hK
  case pick =>
    simp only [comp1, ho, Option.map_eq_some_iff, Option.bind_eq_some_iff] at hc
    obtain ⟨c, h1, x, h2, y, h3, rfl⟩ := hc
    exact ok_pick ho h1 h2 h3 hK
  case alloc =>
    simp only [comp1, ho, Option.map_eq_some_iff] at hc
    obtain ⟨z, hz, rfl⟩ := hc
    exact ok_alloc ho hz hK
  case box =>
    simp only [comp1, ho, Option.map_eq_some_iff] at hc
    obtain ⟨x, hx, rfl⟩ := hc
    exact ok_box ho hx hK
  case build t pts =>
    simp only [comp1, ho] at hc
    split at hc
    · rename_i fs hu
      split at hc
      · rename_i hp
        obtain ⟨places, hp⟩ := Option.isSome_iff_exists.1 hp
        simp only [Option.map_eq_some_iff, Option.bind_eq_some_iff] at hc
        obtain ⟨z, hz, ps, hps, rfl⟩ := hc
        exact ok_build ho hu hp hz hps hK
      · simp at hc
    · simp at hc
  case buildSlice t n pts =>
    simp only [comp1, ho, Option.bind_eq_some_iff] at hc
    obtain ⟨e, he, z, hz, ps, hps, hc⟩ := hc
    have hu : P.underlying t = some (.slice e) := by
      unfold elemT at he
      split at he
      · simp at he; subst he; assumption
      · simp at he
    split at hc
    · rename_i g hg
      simp at hc; subst hc
      exact ok_bsl hT ho hu hg hz hps hK
    · split at hc
      · rename_i hs1
        simp at hc; subst hc
        exact ok_bsb ho hu hs1 hz hps hK
      · simp at hc
  case load =>
    simp only [comp1, ho, Option.bind_eq_some_iff] at hc
    obtain ⟨ag, hag, n, hn, hc⟩ := hc
    split at hc
    · rename_i hn1
      obtain ⟨x, hx, rfl⟩ := Option.map_eq_some_iff.1 hc
      exact ok_ld ho hag hn hn1 hx hK
    · simp at hc
  case store =>
    simp only [comp1, ho, Option.bind_eq_some_iff] at hc
    obtain ⟨n, hn, hc⟩ := hc
    split at hc
    · simp at hc
    · rename_i hn0
      simp only [Option.bind_eq_some_iff, Option.map_eq_some_iff] at hc
      obtain ⟨x, hx, y, hy, rfl⟩ := hc
      exact ok_st ho hn hn0 hx hy hK
  case nilCheck =>
    simp only [comp1, ho, Option.map_eq_some_iff] at hc
    obtain ⟨x, hx, rfl⟩ := hc
    exact ok_nck ho hx hK
  case unOp uo t X =>
    cases uo <;> simp only [comp1, ho, Option.map_eq_some_iff] at hc <;> try (simp at hc; done)
    all_goals obtain ⟨x, hx, rfl⟩ := hc
    all_goals first
      | exact ok_not ho hx hK
      | exact ok_neg ho hx hK
      | exact ok_inv ho hx hK
  case makeSlice t l c =>
    simp only [comp1, ho, Option.bind_eq_some_iff] at hc
    obtain ⟨e, he, g, hg, by_, hby, z, hz, x, hx, y, hy, hc⟩ := hc
    split at hc
    · rename_i e2
      subst e2
      simp at hc; subst hc
      have hu : P.underlying t = some (.slice e) := by
        unfold elemT at he
        split at he
        · simp at he; subst he; assumption
        · simp at he
      exact ok_mk hT ho hu hg hby hz hx hy hK
    · simp at hc
  case fieldAddr =>
    simp only [comp1, ho, Option.bind_eq_some_iff, Option.map_eq_some_iff] at hc
    obtain ⟨⟨off, ft, n⟩, hf, x, hx, rfl⟩ := hc
    exact ok_fa ho hf hx hK
  case field =>
    simp only [comp1, ho, Option.bind_eq_some_iff] at hc
    obtain ⟨⟨off, ft, n⟩, hf, ag, hag, hc⟩ := hc
    split at hc
    · rename_i hn1
      obtain ⟨x, hx, rfl⟩ := Option.map_eq_some_iff.1 hc
      exact ok_fv ho hf hag hn1 hx hK
    · simp at hc
  case indexAddr =>
    simp only [comp1, ho] at hc
    split at hc
    · rename_i e hu
      simp only [Option.bind_eq_some_iff] at hc
      obtain ⟨x, hx, i, hi, hc⟩ := hc
      split at hc
      · rename_i g hg
        simp at hc; subst hc
        exact ok_idx hT ho hu hg hx hi hK
      · split at hc
        · rename_i hs1
          simp at hc; subst hc
          exact ok_idxb ho hu hs1 hx hi hK
        · simp at hc
    · simp at hc
  case index =>
    simp only [comp1, ho] at hc
    split at hc
    · rename_i hu
      simp only [Option.bind_eq_some_iff, Option.map_eq_some_iff] at hc
      obtain ⟨x, hx, i, hi, rfl⟩ := hc
      exact ok_ixs ho hu hx hi hK
    · simp at hc
  case extract =>
    simp only [comp1, ho, Option.map_eq_some_iff] at hc
    obtain ⟨x, hx, rfl⟩ := hc
    exact ok_ext ho hx hK
  case makeFunc f first caps =>
    cases f <;> simp only [comp1, ho] at hc <;> try (simp at hc; done)
    split at hc
    · rename_i hf
      obtain ⟨xs, hx, rfl⟩ := Option.map_eq_some_iff.1 hc
      exact ok_mkfn ho hf hx hK
    · simp at hc
  all_goals simp [comp1, ho] at hc
end
end Go.Eng
/- The engine, part 17: what a callee sees. -/
namespace Go.Eng
section
variable {R : Type} {U : RowU R}

/-- Where windows lie. -/
def adr (U : RowU R) (φ : Phi) (x : Src × Blk R) : Option Addr :=
  match x.1 with
  | .row b _ => φ b
  | .cut b _ lo _ => (φ b).map fun a => a.add (lo * (match x.2.k with | .row r => U.esz (U.tag r) | .box _ => 0))
  | .box b off _ => (φ b).map fun a => a.add off
  | .nil _ => none
def phW (U : RowU R) (φ : Phi) (ws : Wins R) : Phi := fun k => (ws[k]?).bind (adr U φ)
def hpW (ws : Wins R) : Hp R := fun k => (ws[k]?).map (·.2)

/-- What a window is of. -/
def SrcOk (U : RowU R) (h : Hp R) (x : Src × Blk R) : Prop :=
  x.2.g = 0 ∧ (x.2.m = 1 ∨ x.2.m = 2) ∧
  match x.1 with
  | .row b g => ∃ r m, h b = some ⟨.row r, g, m⟩ ∧ m ≠ 0 ∧ (x.2.m = 2 → m = 2) ∧ x.2.k = .row r
  | .cut b g lo n => ∃ r m, h b = some ⟨.row r, g, m⟩ ∧ m ≠ 0 ∧ lo + n ≤ U.len r ∧ x.2.m = 1 ∧ x.2.k = .row (U.cut r lo n)
  | .box b off n => ∃ cs g m, h b = some ⟨.box cs, g, m⟩ ∧ m ≠ 0 ∧ (x.2.m = 2 → m = 2 ∧ off = 0 ∧ n = cs.length) ∧ off + n ≤ cs.length ∧ ∃ cs', x.2.k = .box cs'
  | .nil _ => ∃ r, x.2.k = .row r ∧ U.len r = 0

structure WOk (U : RowU R) (φ : Phi) (h : Hp R) (w : World) (ws : Wins R) : Prop where
  src : ∀ (k : Nat) x, ws[k]? = some x → SrcOk U h x
  blk : ∀ (k : Nat) x, ws[k]? = some x → BlkOk U (phW U φ ws) (hpW ws) w k x.2

/-- One window that stays what it was, but for a variable's cells. -/
structure WSame (x y : Src × Blk R) : Prop where
  src : y.1 = x.1
  g : y.2.g = x.2.g
  m : y.2.m = x.2.m
  k : y.2.k = x.2.k ∨ ∃ cs cs', x.2.k = .box cs ∧ y.2.k = .box cs'
def WStep (ws ws' : Wins R) : Prop := ∀ (k : Nat) x, ws[k]? = some x → ∃ y, ws'[k]? = some y ∧ WSame x y

theorem WSame.refl {x : Src × Blk R} : WSame x x := ⟨rfl, rfl, rfl, .inl rfl⟩
theorem WSame.trans {x y z : Src × Blk R} (h : WSame x y) (h' : WSame y z) : WSame x z := by
  refine ⟨h'.src.trans h.src, h'.g.trans h.g, h'.m.trans h.m, ?_⟩
  rcases h.k with e | ⟨cs, cs', e1, e2⟩
  · rcases h'.k with e' | ⟨ds, ds', f1, f2⟩
    · exact .inl (e'.trans e)
    · exact .inr ⟨ds, ds', e ▸ f1, f2⟩
  · rcases h'.k with e' | ⟨ds, ds', f1, f2⟩
    · exact .inr ⟨cs, cs', e1, e'.trans e2⟩
    · exact .inr ⟨cs, ds', e1, f2⟩
theorem WStep.refl {ws : Wins R} : WStep ws ws := fun _ x h => ⟨x, h, .refl⟩
theorem WStep.trans {ws ws' ws'' : Wins R} (h : WStep ws ws') (h' : WStep ws' ws'') : WStep ws ws'' := fun k x hx => by
  obtain ⟨y, hy, s⟩ := h k x hx
  obtain ⟨z, hz, s'⟩ := h' k y hy
  exact ⟨z, hz, s.trans s'⟩
theorem WStep.app {ws : Wins R} (x : Src × Blk R) : WStep ws (ws ++ [x]) := fun k y hy => ⟨y, by rw [List.getElem?_append_left (List.getElem?_eq_some_iff.1 hy).1]; exact hy, .refl⟩
theorem WStep.set {ws : Wins R} {k : Nat} {x y : Src × Blk R} (hx : ws[k]? = some x) (hs : WSame x y) : WStep ws (ws.set k y) := fun i z hz => by
  by_cases e : k = i
  · subst e
    rw [hx] at hz; simp at hz; subst hz
    exact ⟨y, by rw [List.getElem?_set_self (List.getElem?_eq_some_iff.1 hx).1], hs⟩
  · exact ⟨z, by rw [List.getElem?_set_ne e]; exact hz, .refl⟩
theorem WStep.len {ws ws' : Wins R} (h : WStep ws ws') : ws.length ≤ ws'.length := by
  rcases Nat.eq_zero_or_pos ws.length with e | e
  · omega
  · obtain ⟨y, hy, _⟩ := h (ws.length - 1) _ (List.getElem?_eq_getElem (by omega))
    have := (List.getElem?_eq_some_iff.1 hy).1
    omega
theorem WSame.adr {φ : Phi} {x y : Src × Blk R} (h : WSame x y) : adr U φ y = adr U φ x := by
  unfold Go.Eng.adr
  rw [h.src]
  split <;> try rfl
  rcases h.k with e | ⟨cs, cs', e1, e2⟩
  · rw [e]
  · rw [e1, e2]
theorem WStep.phi {φ : Phi} {ws ws' : Wins R} (h : WStep ws ws') {k : Nat} (hk : k < ws.length) : phW U φ ws' k = phW U φ ws k := by
  obtain ⟨y, hy, s⟩ := h k _ (List.getElem?_eq_getElem hk)
  simp only [phW, hy, List.getElem?_eq_getElem hk, Option.bind_some, s.adr]
theorem WStep.ext {φ : Phi} {w : World} {ws ws' : Wins R} (h : WStep ws ws') : Ext U (phW U φ ws) (hpW ws) w (phW U φ ws') (hpW ws') w := by
  intro k blk hb
  obtain ⟨x, hx, rfl⟩ := Option.map_eq_some_iff.1 hb
  obtain ⟨y, hy, s⟩ := h k x hx
  have hd : HdrOk U w w (phW U φ ws) (phW U φ ws') k x.2 y.2 := by
    refine ⟨s.m, h.phi (List.getElem?_eq_some_iff.1 hx).1, fun r hr => ?_, fun cs hcs => ?_, fun _ _ cs t fr hc => ⟨cs, t, fr, hc, Nat.le_refl _⟩⟩
    · rcases s.k with e | ⟨_, _, _, e2⟩
      · exact ⟨r, e ▸ hr, rfl, rfl⟩
      · rw [e2] at hr; simp at hr
    · rcases s.k with e | ⟨c1, _, e1, _⟩
      · exact ⟨cs, e ▸ hcs⟩
      · exact ⟨c1, e1⟩
  refine ⟨y.2, by simp [hpW, hy], Nat.le_of_eq s.g.symm, fun _ cs hcs => ⟨?_, hd⟩, fun _ _ => hd⟩
  rcases s.k with e | ⟨_, c2, _, e2⟩
  · exact ⟨cs, e ▸ hcs⟩
  · exact ⟨c2, e2⟩
theorem touched_step {ws ws' : Wins R} (h : WStep ws ws') : ∀ b ∈ touched ws, b ∈ touched ws' := by
  intro b hb
  obtain ⟨x, hx, hxb⟩ := List.mem_filterMap.1 hb
  obtain ⟨k, hk⟩ := List.getElem?_of_mem hx
  obtain ⟨y, hy, s⟩ := h k x hk
  exact List.mem_filterMap.2 ⟨y, List.mem_of_getElem? hy, by rw [s.src]; exact hxb⟩

variable {φ : Phi} {h : Hp R} {w : World}
theorem WOk.ap {ws : Wins R} {x : Src × Blk R} (hw : WOk U φ h w ws) (hs : SrcOk U h x) (hb : BlkOk U (phW U φ (ws ++ [x])) (hpW (ws ++ [x])) w ws.length x.2) : WOk U φ h w (ws ++ [x]) := by
  refine ⟨fun k y hy => ?_, fun k y hy => ?_⟩
  · rcases Nat.lt_or_ge k ws.length with hk | hk
    · rw [List.getElem?_append_left hk] at hy; exact hw.src k y hy
    · rw [List.getElem?_append_right hk] at hy
      have := List.mem_of_getElem? hy
      simp at this; subst this; exact hs
  · rcases Nat.lt_or_ge k ws.length with hk | hk
    · rw [List.getElem?_append_left hk] at hy
      exact (hw.blk k y hy).keep (WStep.app x).ext ((WStep.app x).phi hk) fun _ _ _ hx => hx
    · have hk' : k = ws.length := by
        have := (List.getElem?_eq_some_iff.1 hy).1
        simp at this; omega
      subst hk'
      simp at hy; subst hy; exact hb
theorem WOk.put {ws : Wins R} {k : Nat} {x y : Src × Blk R} (hw : WOk U φ h w ws) (hx : ws[k]? = some x) (hxy : WSame x y) (hs : SrcOk U h y) (hb : BlkOk U (phW U φ (ws.set k y)) (hpW (ws.set k y)) w k y.2) : WOk U φ h w (ws.set k y) := by
  have hkl := (List.getElem?_eq_some_iff.1 hx).1
  refine ⟨fun i z hz => ?_, fun i z hz => ?_⟩
  · by_cases e : k = i
    · subst e; rw [List.getElem?_set_self hkl] at hz; simp at hz; subst hz; exact hs
    · rw [List.getElem?_set_ne e] at hz; exact hw.src i z hz
  · by_cases e : k = i
    · subst e; rw [List.getElem?_set_self hkl] at hz; simp at hz; subst hz; exact hb
    · rw [List.getElem?_set_ne e] at hz
      exact (hw.blk i z hz).keep (WStep.set hx hxy).ext ((WStep.set hx hxy).phi (List.getElem?_eq_some_iff.1 hz).1) fun _ _ _ hx => hx
end
end Go.Eng
