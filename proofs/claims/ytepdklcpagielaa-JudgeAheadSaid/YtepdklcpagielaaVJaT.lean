/-
  Judge: JudgeAhead's contract and the types.
-/
import Derived.Test.YtepdklcpagielaaVJaA
import Derived.Test.YtepdklcpagielaaVJfT
