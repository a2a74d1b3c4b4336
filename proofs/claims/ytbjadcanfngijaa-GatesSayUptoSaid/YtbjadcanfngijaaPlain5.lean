/- The plain law, continued: does each input stand in one switch at most. -/
import Derived.Test.YtbjadcanfngijaaPlain4
namespace Go.Proofs.Ytbjadcanfngijaa
namespace Way
mutual
def one : Way → List Int → Bool × List Int
  | mk kd i _ a, s => if kd = 1 then (!decide (i ∈ s), i :: s) else ones a s
def ones : List Way → List Int → Bool × List Int
  | [], s => (true, s)
  | c :: r, s => if (one c s).1 = true then ones r (one c s).2 else (false, (one c s).2)
end
end Way
end Go.Proofs.Ytbjadcanfngijaa
