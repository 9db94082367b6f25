/- An evaluator of the loaded program over an abstract heap, proved right: part 6. -/
import Derived.Test.YtkgeojjgcffebaaEng5
set_option linter.unusedVariables false
set_option linter.unusedSimpArgs false
set_option linter.unusedSectionVars false
/- The rows of this program: what their elements are, and how their cells lie. -/
namespace Go.Eng
structure GKey where
  base : Int
  top : Int
  perms : Int
  seal_ : Int
deriving DecidableEq, Inhabited
structure GWord where
  n : Int
  is : Bool
  key : GKey
deriving DecidableEq, Inhabited
structure GSpan where
  at_ : Int
  len : Int
deriving DecidableEq, Inhabited
structure GSeen where
  at_ : Int
  r : Int
  addr : Int
  trap : Int
deriving DecidableEq, Inhabited
structure GIns where
  op : Int
  r : Int
  a : Int
  b : Int
  n : Int
deriving DecidableEq, Inhabited
structure GPick where
  kind : Int
  n : Int
deriving DecidableEq, Inhabited
structure GEffect where
  trap : Int
  r : Int
  val : GWord
  next : GWord
  at_ : Int
  put : GWord
  drop : Int
deriving DecidableEq, Inhabited
structure GEntry where
  pc : GWord
  x : GIns
  done : Bool
  e : GEffect
  guess : GWord
deriving DecidableEq, Inhabited
inductive Tag where
  | int | bool | byte | word | span | seen | ins | str | pick | entry
deriving DecidableEq
def Tag.num : Tag → Nat
  | .int => 0 | .bool => 1 | .byte => 2 | .word => 3 | .span => 4 | .seen => 5 | .ins => 6 | .str => 7 | .pick => 8 | .entry => 9
def Tag.of : Nat → Option Tag
  | 0 => some .int | 1 => some .bool | 2 => some .byte | 3 => some .word | 4 => some .span | 5 => some .seen | 6 => some .ins | 7 => some .str | 8 => some .pick | 9 => some .entry | _ => none
theorem Tag.of_num {n : Nat} {t : Tag} (h : Tag.of n = some t) : t.num = n := by
  unfold Tag.of at h
  split at h <;> simp at h <;> subst h <;> rfl
abbrev Ty : Tag → Type
  | .int => Int | .bool => Bool | .byte => Int | .word => GWord | .span => GSpan | .seen => GSeen | .ins => GIns | .str => ByteArray | .pick => GPick | .entry => GEntry
structure Codec (α : Type) where
  enc : α → List C
  dec : List C → Option α
  sz : Nat
  dflt : α
  len : ∀ a, (enc a).length = sz
  plain : ∀ a, (enc a).all C.plain = true
  ok : ∀ cs a, dec cs = some a → enc a = cs

def encInt (a : Int) : List C := [.int .i64 a]
def decInt : List C → Option Int
  | .int .i64 v :: [] => some v
  | _ => none
theorem decInt_ok (cs : List C) (a : Int) (h : decInt cs = some a) : encInt a = cs := by
  unfold decInt at h
  split at h
  · simp at h; subst h; rfl
  · simp at h
def cInt : Codec Int := ⟨encInt, decInt, 1, (0 : Int), fun _ => rfl, fun _ => rfl, decInt_ok⟩
def encBool (a : Bool) : List C := [.bool a]
def decBool : List C → Option Bool
  | .bool v :: [] => some v
  | _ => none
theorem decBool_ok (cs : List C) (a : Bool) (h : decBool cs = some a) : encBool a = cs := by
  unfold decBool at h
  split at h
  · simp at h; subst h; rfl
  · simp at h
def cBool : Codec Bool := ⟨encBool, decBool, 1, false, fun _ => rfl, fun _ => rfl, decBool_ok⟩
def encByte (a : Int) : List C := [.int .u8 a]
def decByte : List C → Option Int
  | .int .u8 v :: [] => some v
  | _ => none
theorem decByte_ok (cs : List C) (a : Int) (h : decByte cs = some a) : encByte a = cs := by
  unfold decByte at h
  split at h
  · simp at h; subst h; rfl
  · simp at h
def cByte : Codec Int := ⟨encByte, decByte, 1, (0 : Int), fun _ => rfl, fun _ => rfl, decByte_ok⟩
def encStr (a : ByteArray) : List C := [.str a]
def decStr : List C → Option ByteArray
  | .str v :: [] => some v
  | _ => none
theorem decStr_ok (cs : List C) (a : ByteArray) (h : decStr cs = some a) : encStr a = cs := by
  unfold decStr at h
  split at h
  · simp at h; subst h; rfl
  · simp at h
def cStr : Codec ByteArray := ⟨encStr, decStr, 1, (default : ByteArray), fun _ => rfl, fun _ => rfl, decStr_ok⟩
def encWord (a : GWord) : List C := [.int .i64 a.n, .bool a.is, .int .i64 a.key.base, .int .i64 a.key.top, .int .i64 a.key.perms, .int .i64 a.key.seal_]
def decWord : List C → Option GWord
  | .int .i64 v1 :: .bool v2 :: .int .i64 v3 :: .int .i64 v4 :: .int .i64 v5 :: .int .i64 v6 :: [] => some ⟨v1, v2, ⟨v3, v4, v5, v6⟩⟩
  | _ => none
theorem decWord_ok (cs : List C) (a : GWord) (h : decWord cs = some a) : encWord a = cs := by
  unfold decWord at h
  split at h
  · simp at h; subst h; rfl
  · simp at h
def cWord : Codec GWord := ⟨encWord, decWord, 6, (default : GWord), fun _ => rfl, fun _ => rfl, decWord_ok⟩
def encSpan (a : GSpan) : List C := [.int .i64 a.at_, .int .i64 a.len]
def decSpan : List C → Option GSpan
  | .int .i64 v1 :: .int .i64 v2 :: [] => some ⟨v1, v2⟩
  | _ => none
theorem decSpan_ok (cs : List C) (a : GSpan) (h : decSpan cs = some a) : encSpan a = cs := by
  unfold decSpan at h
  split at h
  · simp at h; subst h; rfl
  · simp at h
def cSpan : Codec GSpan := ⟨encSpan, decSpan, 2, (default : GSpan), fun _ => rfl, fun _ => rfl, decSpan_ok⟩
def encSeen (a : GSeen) : List C := [.int .i64 a.at_, .int .i64 a.r, .int .i64 a.addr, .int .i64 a.trap]
def decSeen : List C → Option GSeen
  | .int .i64 v1 :: .int .i64 v2 :: .int .i64 v3 :: .int .i64 v4 :: [] => some ⟨v1, v2, v3, v4⟩
  | _ => none
theorem decSeen_ok (cs : List C) (a : GSeen) (h : decSeen cs = some a) : encSeen a = cs := by
  unfold decSeen at h
  split at h
  · simp at h; subst h; rfl
  · simp at h
def cSeen : Codec GSeen := ⟨encSeen, decSeen, 4, (default : GSeen), fun _ => rfl, fun _ => rfl, decSeen_ok⟩
def encIns (a : GIns) : List C := [.int .i64 a.op, .int .i64 a.r, .int .i64 a.a, .int .i64 a.b, .int .i64 a.n]
def decIns : List C → Option GIns
  | .int .i64 v1 :: .int .i64 v2 :: .int .i64 v3 :: .int .i64 v4 :: .int .i64 v5 :: [] => some ⟨v1, v2, v3, v4, v5⟩
  | _ => none
theorem decIns_ok (cs : List C) (a : GIns) (h : decIns cs = some a) : encIns a = cs := by
  unfold decIns at h
  split at h
  · simp at h; subst h; rfl
  · simp at h
def cIns : Codec GIns := ⟨encIns, decIns, 5, (default : GIns), fun _ => rfl, fun _ => rfl, decIns_ok⟩
def encPick (a : GPick) : List C := [.int .i64 a.kind, .int .i64 a.n]
def decPick : List C → Option GPick
  | .int .i64 v1 :: .int .i64 v2 :: [] => some ⟨v1, v2⟩
  | _ => none
theorem decPick_ok (cs : List C) (a : GPick) (h : decPick cs = some a) : encPick a = cs := by
  unfold decPick at h
  split at h
  · simp at h; subst h; rfl
  · simp at h
def cPick : Codec GPick := ⟨encPick, decPick, 2, (default : GPick), fun _ => rfl, fun _ => rfl, decPick_ok⟩
def encEntry (a : GEntry) : List C := [.int .i64 a.pc.n, .bool a.pc.is, .int .i64 a.pc.key.base, .int .i64 a.pc.key.top, .int .i64 a.pc.key.perms, .int .i64 a.pc.key.seal_, .int .i64 a.x.op, .int .i64 a.x.r, .int .i64 a.x.a, .int .i64 a.x.b, .int .i64 a.x.n, .bool a.done, .int .i64 a.e.trap, .int .i64 a.e.r, .int .i64 a.e.val.n, .bool a.e.val.is, .int .i64 a.e.val.key.base, .int .i64 a.e.val.key.top, .int .i64 a.e.val.key.perms, .int .i64 a.e.val.key.seal_, .int .i64 a.e.next.n, .bool a.e.next.is, .int .i64 a.e.next.key.base, .int .i64 a.e.next.key.top, .int .i64 a.e.next.key.perms, .int .i64 a.e.next.key.seal_, .int .i64 a.e.at_, .int .i64 a.e.put.n, .bool a.e.put.is, .int .i64 a.e.put.key.base, .int .i64 a.e.put.key.top, .int .i64 a.e.put.key.perms, .int .i64 a.e.put.key.seal_, .int .i64 a.e.drop, .int .i64 a.guess.n, .bool a.guess.is, .int .i64 a.guess.key.base, .int .i64 a.guess.key.top, .int .i64 a.guess.key.perms, .int .i64 a.guess.key.seal_]
def decEntry : List C → Option GEntry
  | .int .i64 v1 :: .bool v2 :: .int .i64 v3 :: .int .i64 v4 :: .int .i64 v5 :: .int .i64 v6 :: .int .i64 v7 :: .int .i64 v8 :: .int .i64 v9 :: .int .i64 v10 :: .int .i64 v11 :: .bool v12 :: .int .i64 v13 :: .int .i64 v14 :: .int .i64 v15 :: .bool v16 :: .int .i64 v17 :: .int .i64 v18 :: .int .i64 v19 :: .int .i64 v20 :: .int .i64 v21 :: .bool v22 :: .int .i64 v23 :: .int .i64 v24 :: .int .i64 v25 :: .int .i64 v26 :: .int .i64 v27 :: .int .i64 v28 :: .bool v29 :: .int .i64 v30 :: .int .i64 v31 :: .int .i64 v32 :: .int .i64 v33 :: .int .i64 v34 :: .int .i64 v35 :: .bool v36 :: .int .i64 v37 :: .int .i64 v38 :: .int .i64 v39 :: .int .i64 v40 :: [] => some ⟨⟨v1, v2, ⟨v3, v4, v5, v6⟩⟩, ⟨v7, v8, v9, v10, v11⟩, v12, ⟨v13, v14, ⟨v15, v16, ⟨v17, v18, v19, v20⟩⟩, ⟨v21, v22, ⟨v23, v24, v25, v26⟩⟩, v27, ⟨v28, v29, ⟨v30, v31, v32, v33⟩⟩, v34⟩, ⟨v35, v36, ⟨v37, v38, v39, v40⟩⟩⟩
  | _ => none
theorem decEntry_ok (cs : List C) (a : GEntry) (h : decEntry cs = some a) : encEntry a = cs := by
  unfold decEntry at h
  split at h
  · simp at h; subst h; rfl
  · simp at h
def cEntry : Codec GEntry := ⟨encEntry, decEntry, 40, (default : GEntry), fun _ => rfl, fun _ => rfl, decEntry_ok⟩
def codec : (t : Tag) → Codec (Ty t)
  | .int => cInt
  | .bool => cBool
  | .byte => cByte
  | .word => cWord
  | .span => cSpan
  | .seen => cSeen
  | .ins => cIns
  | .str => cStr
  | .pick => cPick
  | .entry => cEntry
/-- A string's bytes as a row, and back. -/
def ofStrR (s : ByteArray) : List Int := s.data.toList.map fun b => (b.toNat : Int)
def toStrR (xs : List Int) : Option ByteArray := if xs.all (fun n => decide (0 ≤ n) && decide (n < 256)) then some ⟨(xs.map fun n => UInt8.ofNat n.toNat).toArray⟩ else none
theorem toStrR_some {xs : List Int} {s : ByteArray} (h : toStrR xs = some s) : xs = ofStrR s := by
  unfold toStrR at h
  split at h
  · rename_i hall
    simp at h; subst h
    unfold ofStrR
    simp only [List.map_map]
    apply List.ext_getElem
    · simp
    · intro i h1 h2
      have := List.all_eq_true.1 hall _ (List.getElem_mem h1)
      simp only [Bool.and_eq_true, decide_eq_true_eq] at this
      simp
      omega
  · simp at h

structure Row where
  t : Tag
  xs : List (Ty t)

def eszN (n : Nat) : Nat := match Tag.of n with
  | some t => (codec t).sz
  | none => 1
theorem eszN_num (t : Tag) : eszN t.num = (codec t).sz := by cases t <;> rfl
def decL {α : Type} (dec : List C → Option α) : List (List C) → Option (List α)
  | [] => some []
  | x :: xs => match dec x, decL dec xs with
    | some a, some as => some (a :: as)
    | _, _ => none
theorem decL_ok {t : Tag} : ∀ (es : List (List C)) (xs : List (Ty t)), decL (codec t).dec es = some xs → xs.map (codec t).enc = es
  | [], xs, h => by simp [decL] at h; subst h; rfl
  | e :: es, xs, h => by
    unfold decL at h
    split at h
    · rename_i a as h1 h2
      simp at h; subst h
      simp [(codec t).ok _ _ h1, decL_ok es as h2]
    · simp at h
def cast {s t : Tag} (h : s = t) (xs : List (Ty s)) : List (Ty t) := h ▸ xs
theorem cast_map {s t : Tag} (h : s = t) (xs : List (Ty s)) : (cast h xs).map (codec t).enc = xs.map (codec s).enc := by subst h; rfl
theorem cast_len {s t : Tag} (h : s = t) (xs : List (Ty s)) : (cast h xs).length = xs.length := by subst h; rfl

def rowU : RowU Row where
  esz := eszN
  tag r := r.t.num
  cells r := r.xs.map (codec r.t).enc
  len r := r.xs.length
  getD r i := (codec r.t).enc (r.xs.getD i (codec r.t).dflt)
  set r i cs := match (codec r.t).dec cs with
    | some a => some ⟨r.t, r.xs.set i a⟩
    | none => none
  cut r lo n := ⟨r.t, (r.xs.drop lo).take n⟩
  app r s := if h : s.t = r.t then some ⟨r.t, r.xs ++ cast h s.xs⟩ else none
  ovw r lo s := if h : s.t = r.t then some ⟨r.t, r.xs.take lo ++ cast h s.xs ++ r.xs.drop (lo + s.xs.length)⟩ else none
  lit t es := match Tag.of t with
    | some t => match decL (codec t).dec es with
      | some xs => some ⟨t, xs⟩
      | none => none
    | none => none
  rep t n z := match Tag.of t with
    | some t => match (codec t).dec z with
      | some a => some ⟨t, List.replicate n a⟩
      | none => none
    | none => none
  toStr r := match r with
    | ⟨.byte, xs⟩ => toStrR xs
    | _ => none
  ofStr s := ⟨.byte, ofStrR s⟩
  tag_esz r x h := by
    obtain ⟨a, _, rfl⟩ := List.mem_map.1 h
    rw [eszN_num, (codec r.t).len]
  plain r x h := by
    obtain ⟨a, _, rfl⟩ := List.mem_map.1 h
    exact List.all_eq_true.1 ((codec r.t).plain a)
  len_eq r := by simp
  getD_eq r i h := by
    rw [List.getElem?_map, List.getElem?_eq_getElem h, List.getD_eq_getElem?_getD, List.getElem?_eq_getElem h]
    rfl
  set_eq r i cs r' h he := by
    split at he
    · rename_i a ha
      simp at he; subst he
      refine ⟨rfl, ?_⟩
      rw [List.map_set, (codec r.t).ok _ _ ha]
    · simp at he
  cut_eq r lo n := ⟨rfl, by simp [List.map_take, List.map_drop]⟩
  app_eq r s r' h := by
    split at h
    · rename_i e
      simp at h; subst h
      exact ⟨rfl, by rw [e], by simp [cast_map]⟩
    · simp at h
  ovw_eq r lo s r' hle h := by
    split at h
    · rename_i e
      simp at h; subst h
      exact ⟨rfl, by rw [e], by simp [cast_map, List.map_take, List.map_drop]⟩
    · simp at h
  lit_eq t es r h := by
    split at h
    · rename_i t' ht
      split at h
      · rename_i xs hx
        simp at h; subst h
        exact ⟨Tag.of_num ht, decL_ok es xs hx⟩
      · simp at h
    · simp at h
  rep_eq t n z r h := by
    split at h
    · rename_i t' ht
      split at h
      · rename_i a ha
        simp at h; subst h
        exact ⟨Tag.of_num ht, by simp [(codec t').ok _ _ ha]⟩
      · simp at h
    · simp at h
  toStr_eq r s h := by
    split at h
    · have := toStrR_some h
      subst this
      simp [ofStrR, codec, cByte, encByte]
    · simp at h
  ofStr_esz s := rfl
  ofStr_eq s := by simp [ofStrR, codec, cByte, encByte]
abbrev w64 (n : Int) : Int := IntKind.wrap .i64 n
abbrev cutL {α : Type} (xs : List α) (lo n : Nat) : List α := (xs.drop lo).take n
abbrev ovwL {α : Type} (xs : List α) (lo : Nat) (ys : List α) : List α := xs.take lo ++ ys ++ xs.drop (lo + ys.length)
abbrev modL {α : Type} (xs : List α) (i : Nat) (f : α → α) (d : α) : List α := xs.set i (f (xs.getD i d))
abbrev byteAt (s : ByteArray) (i : Nat) : Int := ((s.data.toList.getD i 0).toNat : Int)
abbrev pw2 (k : Nat) (n : Int) : Int := 2 ^ Nat.min n.toNat k
abbrev eqStr (a b : ByteArray) : Bool := a.toList == b.toList
end Go.Eng
