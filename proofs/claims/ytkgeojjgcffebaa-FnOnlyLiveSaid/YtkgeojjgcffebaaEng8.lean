/- An evaluator of the loaded program over an abstract heap, proved right: part 8. -/
import Derived.Test.YtkgeojjgcffebaaEng7
import Derived.WalkKit
import Derived.ProofKit
import Derived.OpenShut
import Derived.ShutString
import Derived.ChangeOld
import Derived.Below
import Derived.Carry
import Derived.SizedLaws
set_option linter.unusedVariables false
set_option linter.unusedSimpArgs false
set_option linter.unusedSectionVars false
/- From a row of a law to the engine: arguments as they come. -/
namespace Go.Eng
open Go.Proofs Go.RowKit Go.ChangeShapes Go.WideShapes
inductive PLeaf where
  | int (k : IntKind) | bool | str
deriving DecidableEq
inductive Leaf where
  | p (l : PLeaf) | row (g : Nat) (ps : List PLeaf)
deriving DecidableEq
def Leaf.plain? : Leaf → Option PLeaf
  | .p l => some l
  | .row _ _ => none
def plains : List Leaf → Option (List PLeaf)
  | [] => some []
  | l :: ls => match l.plain?, plains ls with
    | some p, some ps => some (p :: ps)
    | _, _ => none
theorem plains_ok : ∀ {ls : List Leaf} {ps : List PLeaf}, plains ls = some ps → ls = ps.map Leaf.p
  | [], ps, h => by simp [plains] at h; subst h; rfl
  | l :: ls, ps, h => by
    unfold plains at h
    split at h
    · rename_i p qs h1 h2
      simp at h; subst h
      cases l with
      | p l => simp [Leaf.plain?] at h1; subst h1; simp [plains_ok h2]
      | row g ps => simp [Leaf.plain?] at h1
    · simp at h
def leafF (P : Program) (f : TypeId → Option (List Leaf)) : Nat → List Field → Option (List Leaf)
  | _, [] => some []
  | off, g :: gs => match f g.type with
    | some l => if g.offset = off ∧ l.length = P.cellsOf g.type then (leafF P f (off + l.length) gs).map (l ++ ·) else none
    | none => none
/-- What the cells of a type are. -/
def leafT (P : Program) (tagT : TypeId → Option Nat) : Nat → TypeId → Option (List Leaf)
  | 0, _ => none
  | n + 1, t => match P.underlying t with
    | some .bool => some [.p .bool]
    | some (.int k) => some [.p (.int k)]
    | some .string => some [.p .str]
    | some (.slice e) => match tagT e, leafT P tagT n e with
      | some g, some ls => match plains ls with
        | some ps => if ps.length = P.cellsOf e ∧ 0 < P.bytesOf e then some [.row g ps] else none
        | none => none
      | _, _ => none
    | some (.struct fs) => match leafF P (leafT P tagT n) 0 fs.toList with
      | some ls => if ls.length = P.cellsOf t then some ls else none
      | none => none
    | _ => none

def PlainIs : PLeaf → Value → Prop
  | .int k, v => ∃ n, v = .int k n ∧ (Lit.int k n).wf = true
  | .bool, v => ∃ b, v = .bool b
  | .str, v => ∃ s, v = .string s
def LeafIs (w : World) : Leaf → Value → Prop
  | .p l, v => PlainIs l v
  | .row _ ps, v => v = .slice none 0 0 ∨ ∃ a len cap, v = .slice (some a) len cap ∧ len ≤ cap ∧ len ≤ reachBytes ∧ ∀ i, i < len → ∃ cs, All2 PlainIs ps cs ∧ ∀ (j : Nat) x, cs[j]? = some x → w.cell? (a.add (i * ps.length + j)) = some x

theorem All2.append_inv {α β : Type} {r : α → β → Prop} {xs xs' : List α} {ys : List β} (h : All2 r xs (ys.take xs.length)) (h' : All2 r xs' (ys.drop xs.length)) : All2 r (xs ++ xs') ys := by
  have := h.append h'
  rwa [List.take_append_drop] at this

theorem weightsAll_mem {H : Type} {P : Program} {e : TypeId} : ∀ {l : List (DataW H)} {d : DataW H}, d ∈ l → ∀ n ∈ d.weights P e, n ∈ DataW.weightsAll P e l
  | d' :: r, d, hd, n, hn => by
    simp only [DataW.weightsAll, List.mem_append]
    rcases List.mem_cons.1 hd with rfl | h
    · exact Or.inl hn
    · exact Or.inr (weightsAll_mem h n hn)

theorem leafF_ok {P : Program} {w : World} {f : TypeId → Option (List Leaf)} {cs : List Value} : ∀ (gs : List Field) (off : Nat) (ls : List Leaf), leafF P f off gs = some ls →
    (∀ (j : Nat) g, gs[j]? = some g → ∀ l, f g.type = some l → All2 (LeafIs w) l ((cs.drop g.offset).take (P.cellsOf g.type))) → All2 (LeafIs w) ls ((cs.drop off).take ls.length)
  | [], off, ls, h, _ => by simp [leafF] at h; subst h; exact .nil
  | g :: gs, off, ls, h, hg => by
    unfold leafF at h
    split at h
    · rename_i l hl
      split at h
      · rename_i hc
        obtain ⟨ls', h1, rfl⟩ := Option.map_eq_some_iff.1 h
        have ih := leafF_ok gs (off + l.length) ls' h1 fun j g' hj => hg (j + 1) g' (by simpa using hj)
        have h0 := hg 0 g rfl l hl
        rw [hc.1, ← hc.2] at h0
        refine All2.append_inv ?_ ?_
        · rw [List.take_take, List.length_append, Nat.min_eq_left (by omega)]; exact h0
        · rw [List.drop_take, List.drop_drop, List.length_append, show l.length + ls'.length - l.length = ls'.length by omega]; exact ih
      · simp at h
    · simp at h

section
variable {H : Type} {enc : TypeId × Value → H} {P : Program} {w : World} {base : Nat} {spare : Nat → Bool} {held : Bool} {tagT : TypeId → Option Nat}

theorem trod_leaves : ∀ (n : Nat) {t : TypeId} {ls : List Leaf} {fuel : Nat} {cs : List Value} {x : DataW H × List MemPlace}, leafT P tagT n t = some ls → DataW.trod enc P w base spare held fuel t cs = some x →
    (∀ m ∈ x.1.weights P t, m ≤ reachBytes) → All2 (LeafIs w) ls cs
  | 0, _, _, _, _, _, h, _, _ => by simp [leafT] at h
  | n + 1, t, ls, fuel, cs, x, h, ht, hw => by
    unfold leafT at h
    split at h
    · rename_i hu
      simp at h; subst h
      obtain ⟨b, rfl, _⟩ := DataW.trod_bool hu ht
      exact All2.nil.cons ⟨b, rfl⟩
    · rename_i k hu
      simp at h; subst h
      obtain ⟨m, rfl, _, hm⟩ := DataW.trod_int hu ht
      exact All2.nil.cons ⟨m, rfl, hm⟩
    · rename_i hu
      simp at h; subst h
      obtain ⟨s, rfl, _⟩ := DataW.trod_string hu ht
      exact All2.nil.cons ⟨s, rfl⟩
    · rename_i e hu
      split at h
      · rename_i g ls' hg hl
        split at h
        · rename_i ps hps
          split at h
          · rename_i hc
            simp at h; subst h
            rcases DataW.trod_slice hu ht with ⟨rfl, rfl⟩ | ⟨a, len, cap, elems, rest, m, rfl, rfl, rfl, hb, hlc, hm, hel, hi, _, _⟩
            · exact All2.nil.cons (.inl rfl)
            · refine All2.nil.cons (.inr ⟨a, len, cap, rfl, hlc, ?_, fun i hlt => ?_⟩)
              · have := hw ((elems.length + rest.length) * P.bytesOf e) (by simp [DataW.weights, hu])
                have h1 := Nat.le_mul_of_pos_right (elems.length + rest.length) hc.2
                omega
              · have h1 := hi i hlt
                have hlt' : i < elems.length := by omega
                rw [List.getElem?_eq_getElem hlt', Option.bind_eq_some_iff] at h1
                obtain ⟨cs, h2, h3⟩ := h1
                have h4 := trod_leaves n hl h3 fun k hk => hw k (by
                  simp only [DataW.weights, hu, List.mem_cons, List.mem_append]
                  exact .inr (.inl (weightsAll_mem (List.mem_map.2 ⟨_, List.getElem_mem hlt', rfl⟩) k hk)))
                rw [plains_ok hps] at h4
                obtain ⟨_, h5, h6⟩ := World.cells?_some h2
                refine ⟨cs, h4.of_map, fun j y hj => ?_⟩
                have hj' : j < cs.length := (List.getElem?_eq_some_iff.1 hj).1
                have := h6 j (by omega)
                rw [add_add] at this
                rw [hc.1, this, hj]
          · simp at h
        · simp at h
      · simp at h
    · rename_i fs hu
      split at h
      · rename_i ls' hl
        split at h
        · rename_i hc
          simp at h; subst h
          obtain ⟨xs, m, rfl, rfl, hlen, hxs, hf⟩ := DataW.trod_struct hu ht
          have := leafF_ok (w := w) (cs := cs) fs.toList 0 ls' hl fun j g hj l hl => by
            have hj' : fs[j]? = some g := by simpa using hj
            have hjl : j < fs.size := (Array.getElem?_eq_some_iff.1 hj').1
            have h1 := hf j g hj'
            rw [List.getElem?_eq_getElem (by omega)] at h1
            refine trod_leaves n hl h1 fun k hk => hw k ?_
            simp only [DataW.weights, hu]
            exact DataW.weights_mem_each (j := j) (by simp [hj']) (by rw [List.getElem?_map, List.getElem?_eq_getElem (by omega)]; rfl) k hk
          rw [List.drop_zero, hc, ← hlen, List.take_length] at this
          exact this
        · simp at h
      · simp at h
    · simp at h
end
end Go.Eng
/- From a row of a law to the engine: the rows that come in. -/
namespace Go.Eng
open Go.Proofs Go.RowKit Go.ChangeShapes Go.WideShapes
def kindOf : C → Option PLeaf
  | .int k _ => some (.int k)
  | .bool _ => some .bool
  | .str _ => some .str
  | _ => none
def wfC : C → Prop
  | .int k n => (Lit.int k n).wf = true
  | _ => True
theorem kind_int {c : C} {k : IntKind} (h : kindOf c = some (.int k)) : ∃ n, c = .int k n := by
  cases c <;> simp [kindOf] at h
  subst h; exact ⟨_, rfl⟩
theorem kind_bool {c : C} (h : kindOf c = some .bool) : ∃ b, c = .bool b := by
  cases c <;> simp [kindOf] at h
  exact ⟨_, rfl⟩
theorem plain_one {l : PLeaf} {v : Value} (h : PlainIs l v) : ∃ c, kindOf c = some l ∧ wfC c ∧ ∀ φ h w, RelC rowU φ h w c v := by
  cases l with
  | int k => obtain ⟨n, rfl, hn⟩ := h; exact ⟨.int k n, rfl, hn, fun _ _ _ => rfl⟩
  | bool => obtain ⟨b, rfl⟩ := h; exact ⟨.bool b, rfl, trivial, fun _ _ _ => rfl⟩
  | str => obtain ⟨s, rfl⟩ := h; exact ⟨.str s, rfl, trivial, fun _ _ _ => rfl⟩
theorem plain_all : ∀ {ps : List PLeaf} {vs : List Value}, All2 PlainIs ps vs → ∃ cs : List C, cs.map kindOf = ps.map some ∧ (∀ c ∈ cs, wfC c) ∧ All2 (fun c v => ∀ φ h w, RelC rowU φ h w c v) cs vs
  | [], vs, h => by rw [h.inv_nil]; exact ⟨[], rfl, by simp, .nil⟩
  | p :: ps, vs, h => by
    obtain ⟨v, vs', rfl, h1, h2⟩ := h.inv_cons
    obtain ⟨c, k1, k2, k3⟩ := plain_one h1
    obtain ⟨cs, g1, g2, g3⟩ := plain_all h2
    exact ⟨c :: cs, by simp [k1, g1], fun x hx => by rcases List.mem_cons.1 hx with rfl | hx; exact k2; exact g2 x hx, g3.cons k3⟩
/-- What the elements of a row are made of. -/
def psOf : Tag → List PLeaf
  | .int => [.int .i64] | .bool => [.bool] | .byte => [.int .u8] | .word => [.int .i64, .bool, .int .i64, .int .i64, .int .i64, .int .i64]
  | .span => [.int .i64, .int .i64] | .seen => [.int .i64, .int .i64, .int .i64, .int .i64] | .ins => [.int .i64, .int .i64, .int .i64, .int .i64, .int .i64]
  | .pick => [.int .i64, .int .i64] | .str => [.str] | .entry => []
theorem dec_all (t : Tag) (hs : t ≠ .str) (he : t ≠ .entry) (cs : List C) (h : cs.map kindOf = (psOf t).map some) : ∃ a : Ty t, (codec t).enc a = cs := by
  cases t with
  | int =>
    obtain ⟨c1, _, rfl, h1, h⟩ := List.map_eq_cons_iff.1 h
    obtain rfl := List.map_eq_nil_iff.1 h
    obtain ⟨n1, rfl⟩ := kind_int h1
    exact ⟨n1, rfl⟩
  | bool =>
    obtain ⟨c1, _, rfl, h1, h⟩ := List.map_eq_cons_iff.1 h
    obtain rfl := List.map_eq_nil_iff.1 h
    obtain ⟨n1, rfl⟩ := kind_bool h1
    exact ⟨n1, rfl⟩
  | byte =>
    obtain ⟨c1, _, rfl, h1, h⟩ := List.map_eq_cons_iff.1 h
    obtain rfl := List.map_eq_nil_iff.1 h
    obtain ⟨n1, rfl⟩ := kind_int h1
    exact ⟨n1, rfl⟩
  | word =>
    obtain ⟨c1, _, rfl, h1, h⟩ := List.map_eq_cons_iff.1 h
    obtain ⟨c2, _, rfl, h2, h⟩ := List.map_eq_cons_iff.1 h
    obtain ⟨c3, _, rfl, h3, h⟩ := List.map_eq_cons_iff.1 h
    obtain ⟨c4, _, rfl, h4, h⟩ := List.map_eq_cons_iff.1 h
    obtain ⟨c5, _, rfl, h5, h⟩ := List.map_eq_cons_iff.1 h
    obtain ⟨c6, _, rfl, h6, h⟩ := List.map_eq_cons_iff.1 h
    obtain rfl := List.map_eq_nil_iff.1 h
    obtain ⟨n1, rfl⟩ := kind_int h1
    obtain ⟨n2, rfl⟩ := kind_bool h2
    obtain ⟨n3, rfl⟩ := kind_int h3
    obtain ⟨n4, rfl⟩ := kind_int h4
    obtain ⟨n5, rfl⟩ := kind_int h5
    obtain ⟨n6, rfl⟩ := kind_int h6
    exact ⟨⟨n1, n2, ⟨n3, n4, n5, n6⟩⟩, rfl⟩
  | span =>
    obtain ⟨c1, _, rfl, h1, h⟩ := List.map_eq_cons_iff.1 h
    obtain ⟨c2, _, rfl, h2, h⟩ := List.map_eq_cons_iff.1 h
    obtain rfl := List.map_eq_nil_iff.1 h
    obtain ⟨n1, rfl⟩ := kind_int h1
    obtain ⟨n2, rfl⟩ := kind_int h2
    exact ⟨⟨n1, n2⟩, rfl⟩
  | seen =>
    obtain ⟨c1, _, rfl, h1, h⟩ := List.map_eq_cons_iff.1 h
    obtain ⟨c2, _, rfl, h2, h⟩ := List.map_eq_cons_iff.1 h
    obtain ⟨c3, _, rfl, h3, h⟩ := List.map_eq_cons_iff.1 h
    obtain ⟨c4, _, rfl, h4, h⟩ := List.map_eq_cons_iff.1 h
    obtain rfl := List.map_eq_nil_iff.1 h
    obtain ⟨n1, rfl⟩ := kind_int h1
    obtain ⟨n2, rfl⟩ := kind_int h2
    obtain ⟨n3, rfl⟩ := kind_int h3
    obtain ⟨n4, rfl⟩ := kind_int h4
    exact ⟨⟨n1, n2, n3, n4⟩, rfl⟩
  | ins =>
    obtain ⟨c1, _, rfl, h1, h⟩ := List.map_eq_cons_iff.1 h
    obtain ⟨c2, _, rfl, h2, h⟩ := List.map_eq_cons_iff.1 h
    obtain ⟨c3, _, rfl, h3, h⟩ := List.map_eq_cons_iff.1 h
    obtain ⟨c4, _, rfl, h4, h⟩ := List.map_eq_cons_iff.1 h
    obtain ⟨c5, _, rfl, h5, h⟩ := List.map_eq_cons_iff.1 h
    obtain rfl := List.map_eq_nil_iff.1 h
    obtain ⟨n1, rfl⟩ := kind_int h1
    obtain ⟨n2, rfl⟩ := kind_int h2
    obtain ⟨n3, rfl⟩ := kind_int h3
    obtain ⟨n4, rfl⟩ := kind_int h4
    obtain ⟨n5, rfl⟩ := kind_int h5
    exact ⟨⟨n1, n2, n3, n4, n5⟩, rfl⟩
  | pick =>
    obtain ⟨c1, _, rfl, h1, h⟩ := List.map_eq_cons_iff.1 h
    obtain ⟨c2, _, rfl, h2, h⟩ := List.map_eq_cons_iff.1 h
    obtain rfl := List.map_eq_nil_iff.1 h
    obtain ⟨n1, rfl⟩ := kind_int h1
    obtain ⟨n2, rfl⟩ := kind_int h2
    exact ⟨⟨n1, n2⟩, rfl⟩
  | str => exact absurd rfl hs
  | entry => exact absurd rfl he

/-- A row that came in: where it lies. -/
def RowIs (w : World) (r : Row) (ao : Option Addr) (v : Value) : Prop :=
  ∃ A cap, v = .slice A (rowU.len r) cap ∧ rowU.len r ≤ cap ∧ ((rowU.len r = 0 ∧ ao = none) ∨ ∃ a, ao = some a ∧ A = some a ∧ a.block < w.heap.size ∧
    ∀ (i : Nat) c, (flat rowU (.row r))[i]? = some c → ∃ v, w.cell? (a.add i) = some v ∧ ∀ φ h, RelC rowU φ h w c v)
theorem cell_lt {w : World} {a : Addr} {v : Value} (h : w.cell? a = some v) : a.block < w.heap.size := by
  unfold World.cell? at h
  rcases Nat.lt_or_ge a.block w.heap.size with hlt | hge
  · exact hlt
  · simp [Array.getElem?_eq_none hge] at h
theorem pick_list {α : Type} {p : Nat → α → Prop} : ∀ (n : Nat), (∀ i, i < n → ∃ a, p i a) → ∃ l : List α, l.length = n ∧ ∀ (i : Nat) a, l[i]? = some a → p i a
  | 0, _ => ⟨[], rfl, fun i a h => by simp at h⟩
  | n + 1, h => by
    obtain ⟨l, hl, hp⟩ := pick_list n fun i hi => h i (by omega)
    obtain ⟨a, ha⟩ := h n (by omega)
    refine ⟨l ++ [a], by simp [hl], fun i b hb => ?_⟩
    rcases Nat.lt_trichotomy i n with hlt | rfl | hgt
    · rw [List.getElem?_append_left (by omega)] at hb; exact hp i b hb
    · rw [List.getElem?_append_right (by omega), hl] at hb; simp at hb; subst hb; exact ha
    · rw [List.getElem?_eq_none (by simp; omega)] at hb; simp at hb
theorem row_in {w : World} {v : Value} (t : Tag) (hs : t ≠ .str) (he : t ≠ .entry) (h : LeafIs w (.row t.num (psOf t)) v) :
    ∃ (xs : List (Ty t)) (ao : Option Addr), RowIs w ⟨t, xs⟩ ao v ∧ xs.length ≤ reachBytes ∧ ∀ x ∈ xs, ∀ c ∈ (codec t).enc x, wfC c := by
  rcases h with rfl | ⟨a, len, cap, rfl, hl, hr, hi⟩
  · exact ⟨[], none, ⟨none, 0, rfl, Nat.le_refl _, .inl ⟨rfl, rfl⟩⟩, Nat.zero_le _, by simp⟩
  · have hz : ∀ x : Ty t, ((codec t).enc x).length = (psOf t).length := fun x => by
      rw [(codec t).len]; cases t <;> first | rfl | exact absurd rfl he
    obtain ⟨xs, hx, hp⟩ := pick_list (p := fun i (x : Ty t) => (∀ c ∈ (codec t).enc x, wfC c) ∧ ∀ (j : Nat) c, ((codec t).enc x)[j]? = some c → ∃ v, w.cell? (a.add (i * (psOf t).length + j)) = some v ∧ ∀ φ h, RelC rowU φ h w c v) len fun i hlt => by
      obtain ⟨vs, h1, h2⟩ := hi i hlt
      obtain ⟨cs, k1, k2, k3⟩ := plain_all h1
      obtain ⟨x, rfl⟩ := dec_all t hs he cs k1
      refine ⟨x, k2, fun j c hc => ?_⟩
      have hj : j < vs.length := by have := (List.getElem?_eq_some_iff.1 hc).1; have := k3.1; omega
      exact ⟨vs[j], h2 j _ (List.getElem?_eq_getElem hj), fun φ h => k3.2 j c _ hc (List.getElem?_eq_getElem hj) φ h w⟩
    have hlen : rowU.len ⟨t, xs⟩ = xs.length := rfl
    have hwf : ∀ x ∈ xs, ∀ c ∈ (codec t).enc x, wfC c := fun x hx' => by
      obtain ⟨i, hi'⟩ := List.getElem?_of_mem hx'
      exact (hp i x hi').1
    by_cases h0 : len = 0
    · exact ⟨xs, none, ⟨some a, cap, by rw [hlen, hx], by rw [hlen, hx]; exact hl, .inl ⟨by rw [hlen, hx, h0], rfl⟩⟩, by omega, hwf⟩
    · have hcell : ∀ (i : Nat) c, (flat rowU (.row ⟨t, xs⟩))[i]? = some c → ∃ v, w.cell? (a.add i) = some v ∧ ∀ φ h, RelC rowU φ h w c v := fun i c hc => by
        have hall : ∀ y ∈ xs.map (codec t).enc, y.length = (psOf t).length := fun y hy => by
          obtain ⟨x, _, rfl⟩ := List.mem_map.1 hy; exact hz x
        have hc' : (xs.map (codec t).enc).flatten[i]? = some c := hc
        have hlt : i < xs.length * (psOf t).length := by
          have := (List.getElem?_eq_some_iff.1 hc').1
          rw [flatten_len _ hall, List.length_map] at this; exact this
        have hp0 : 0 < (psOf t).length := by cases t <;> first | decide | exact absurd rfl he
        have h1 : i / (psOf t).length < xs.length := Nat.div_lt_of_lt_mul (by rw [Nat.mul_comm]; exact hlt)
        have h2 := flatten_get _ hall (i / (psOf t).length) (i % (psOf t).length) _ (by rw [List.getElem?_map, List.getElem?_eq_getElem h1]; rfl) (Nat.mod_lt _ hp0)
        have h3 : i / (psOf t).length * (psOf t).length + i % (psOf t).length = i := by rw [Nat.mul_comm]; exact Nat.div_add_mod i _
        rw [h3, hc'] at h2
        have h4 := (hp _ _ (List.getElem?_eq_getElem h1)).2 _ c h2.symm
        rwa [h3] at h4
      refine ⟨xs, some a, ⟨some a, cap, by rw [hlen, hx], by rw [hlen, hx]; exact hl, .inr ⟨a, rfl, rfl, ?_, hcell⟩⟩, by omega, hwf⟩
      obtain ⟨vs, h1, h2⟩ := hi 0 (by omega)
      have hp0 : 0 < vs.length := by rw [← h1.1]; cases t <;> first | decide | exact absurd rfl he
      have := cell_lt (h2 0 _ (List.getElem?_eq_getElem hp0))
      rwa [add_block] at this
/-- Rows that came in, side by side. -/
def roW (l : List (Row × Option Addr)) : Heap Row := l.map fun x => ⟨.row x.1, 0, 1⟩
def roP (l : List (Row × Option Addr)) : Phi := fun b => (l[b]?).bind (·.2)
theorem roW_get {l : List (Row × Option Addr)} {b : Nat} {blk : Blk Row} (h : hpL (roW l) b = some blk) : ∃ x, l[b]? = some x ∧ blk = ⟨.row x.1, 0, 1⟩ := by
  have : (roW l)[b]? = some blk := h
  unfold roW at this
  rw [List.getElem?_map] at this
  obtain ⟨x, hx, rfl⟩ := Option.map_eq_some_iff.1 this
  exact ⟨x, hx, rfl⟩
theorem sim_ro {w : World} {l : List (Row × Option Addr)} (h : ∀ x ∈ l, ∃ v, RowIs w x.1 x.2 v) : Sim rowU (roP l) (hpL (roW l)) w := by
  refine ⟨fun b blk a hb _ ha => ?_, fun b blk hb => ?_, fun b b' blk blk' a a' _ hb _ hm _ _ _ => ?_⟩
  · obtain ⟨x, hx, rfl⟩ := roW_get hb
    obtain ⟨v, A, cap, _, _, ⟨_, h1⟩ | ⟨a', h1, _, h2, _⟩⟩ := h x (List.mem_of_getElem? hx)
    · simp [roP, hx, h1] at ha
    · simp [roP, hx, h1] at ha; subst ha; exact h2
  · obtain ⟨x, hx, rfl⟩ := roW_get hb
    unfold BlkOk
    rw [if_neg (by simp), if_neg (by simp)]
    obtain ⟨v, A, cap, _, _, ⟨h0, h1⟩ | ⟨a', h1, _, _, h3⟩⟩ := h x (List.mem_of_getElem? hx)
    · left
      refine ⟨?_, fun cs e => by simp at e⟩
      have : x.1.xs = [] := List.eq_nil_of_length_eq_zero h0
      show (x.1.xs.map (codec x.1.t).enc).flatten = []
      rw [this]; rfl
    · right
      refine ⟨a', by simp [roP, hx, h1], fun i c hc => ?_⟩
      obtain ⟨v, k1, k2⟩ := h3 i c hc
      exact ⟨v, k1, k2 _ _⟩
  · obtain ⟨x, hx, rfl⟩ := roW_get hb
    simp at hm
theorem rel_ro {w : World} {l : List (Row × Option Addr)} {k : Nat} {r : Row} {ao : Option Addr} {v : Value} (hk : l[k]? = some (r, ao)) (h : RowIs w r ao v) : RelC rowU (roP l) (hpL (roW l)) w (.sl k 0) v := by
  obtain ⟨A, cap, rfl, hc, hr⟩ := h
  have hW : hpL (roW l) k = some ⟨.row r, 0, 1⟩ := by show (roW l)[k]? = _; unfold roW; rw [List.getElem?_map, hk]; rfl
  refine ⟨rfl, _, hW, Nat.le_refl _, fun _ _ r' hr' => ?_⟩
  simp at hr'; subst hr'
  refine ⟨by omega, A, cap, rfl, hc, fun e => by simp at e, ?_⟩
  rcases hr with ⟨h0, rfl⟩ | ⟨a, rfl, rfl, _, _⟩
  · exact .inl (.inr ⟨h0, by simp⟩)
  · refine .inr ⟨a, by simp [roP, hk], by rw [Nat.zero_mul, add_zero'], fun e => by simp at e⟩
theorem relc_int {φ : Phi} {h : Hp Row} {w : World} {k : IntKind} {n : Int} : RelC rowU φ h w (.int k n) (.int k n) := rfl
theorem relc_bool {φ : Phi} {h : Hp Row} {w : World} {b : Bool} : RelC rowU φ h w (.bool b) (.bool b) := rfl
theorem relv_int {φ : Phi} {h : Hp Row} {w : World} {k : IntKind} {n : Int} : RelV rowU φ h w (.c (.int k n)) (.int k n) := rfl
theorem relv_bool {φ : Phi} {h : Hp Row} {w : World} {b : Bool} : RelV rowU φ h w (.c (.bool b)) (.bool b) := rfl
theorem relv_ro {w : World} {l : List (Row × Option Addr)} {k : Nat} {r : Row} {ao : Option Addr} {v : Value} (hk : l[k]? = some (r, ao)) (h : RowIs w r ao v) : RelV rowU (roP l) (hpL (roW l)) w (.c (.sl k 0)) v := rel_ro hk h
/-- What is written lies behind what was there. -/
theorem below_of {W : Heap Row} (hro : ∀ b blk, hpL W b = some blk → blk.m ≠ 2) {φ : Phi} {w : World} {v : V} {H : Heap Row} {val : Value} {w' : World} (h : Left rowU W φ w v H val w') : Below w.heap.size w w' := by
  obtain ⟨φ', Wc, _, hs, _⟩ := h
  exact ⟨hs.kept.os, hs.kept.tape, hs.kept.output, hs.kept.size, fun i hi => hs.kept.blk i hi fun b _ blk a hb hm _ => absurd hm (hro b blk hb)⟩
theorem roW_ro {l : List (Row × Option Addr)} : ∀ b blk, hpL (roW l) b = some blk → blk.m ≠ 2 := fun b blk hb => by
  obtain ⟨x, _, rfl⟩ := roW_get hb; simp
/-- What is told of a callee, as a call by itself. -/
def CallsOk (P : Program) (f : Nat) (ce : Callee Row) : Prop :=
  ∀ (vs : List V) (W : Heap Row) (r : V × Heap Row), ce.t _ vs W (fun v H => some (v, H)) = some r →
    ∀ (φ : Phi) (w : World) (args : Array Value), Sim rowU φ (hpL W) w → All2 (RelV rowU φ (hpL W) w) vs args.toList → Calls P f args w fun e w' => ∃ v', e = .returned v' ∧ Left rowU W φ w r.1 r.2 v' w'
theorem callsP {nl : Bool} {i m0 : Nat} {T : List (Nat × Callee Row)} {H : List (Nat × LoopH Row)} {ce : Callee Row} (hTab : TabOk Try.prog rowU T) (hok : okF i = true) (hnd : nodupN ((loopsDeep (codeP i)).map (·.1)) = true)
    (hL : ∀ p ∈ H, LoopsOk Try.prog rowU (envN nl i m0 T H) (loopAt (codeP i) p.1) → LoopOk Try.prog rowU (envN nl i m0 T H) p.1 (loopAt (codeP i) p.1) p.2)
    (h : ∀ (ρ : Type) (vs : List V) (W : Heap Row) (K : V → Heap Row → Option ρ) (r : ρ), ce.t ρ vs W K = some r → ∃ v H', K v H' = some r ∧ evBody rowU (envN nl i m0 T H) (bodyC i) vs W (fun v H => some (v, H)) = some (v, H')) : CallsOk Try.prog i ce := by
  unfold okF at hok
  split at hok
  · rename_i fn hf
    simp only [Bool.and_eq_true, Bool.not_eq_true'] at hok
    obtain ⟨⟨h1, h2⟩, h3⟩ := hok
    obtain ⟨c, hc⟩ := Option.isSome_iff_exists.1 h1
    have hcode : codeP i = c := by unfold codeP; rw [hf]; simp [hc]
    have hbody : bodyC i = compC Try.prog tagP c := by unfold bodyC; rw [hf]; simp [hc]
    have henv : envN nl i m0 T H = ⟨T, H, fn.ntmps, m0, fn.results.toList.map resT, fn.results.toList.map resK, nl⟩ := by unfold envN; rw [hf]
    have hLs : LoopsOk Try.prog rowU (envN nl i m0 T H) c := by
      refine loopsOk_deep c fun k b hk j hh hfd hb => ?_
      rw [hcode] at hnd hL
      have hb' := loopAt_of hnd hk
      subst hb'
      rw [henv] at hfd
      have hj : j = k := by have := List.find?_some hfd; simpa using this
      subst hj
      exact hL (j, hh) (List.mem_of_find?_eq_some hfd) hb
    rw [hbody] at h
    intro vs W r hr φ w args hs ha
    obtain ⟨v, H', e1, e2⟩ := h _ vs W _ r hr
    simp at e1; subst e1
    exact body_calls tagOk mixed (E := envN nl i m0 T H) (by rw [henv]; exact hTab) hf hc (by rw [henv]) (by rw [henv]; exact h3) hLs e2 φ w args hs ha
  · simp at hok
end Go.Eng
