/- Functions of the program, as the evaluator tells them: printed by a program of ours. -/
import Derived.Test.YtkgeojjgcffebaaEng8
set_option linter.unusedVariables false
set_option linter.unusedSimpArgs false
set_option maxRecDepth 20000
namespace Go.Eng
open Go.Proofs
structure GMemory where
  words : List GWord
  gone : List Bool
structure GHeap where
  mem : GMemory
  live : List GSpan
  waits : List GSpan
structure GL1Cur where
  b : List Int
  i : Int
  h : Int
structure GPacked where
  e : Int
  b : Int
  l : Int
end Go.Eng
