/- TWO STRUCTS OF MARKS HELD AGAINST EACH OTHER (page's marks against the right ones). -/
import Derived.Test.YtofhdehigfdmkaaK
namespace Go.Proofs.Ytofhdehigfdmkaa
open Go.RowKit
theorem eq70 (x3 x4 x5 x6 : Int) (w : World) : (Op.equalIn 9999 70 (.agg #[.int .u8 x3, .int .u8 x4, .int .u8 x5, .int .u8 x6]) (.agg #[.int .u8 0, .int .u8 0, .int .u8 0, .int .u8 0])).run Try.prog w =
    .ok (x3 == 0 && x4 == 0 && x5 == 0 && x6 == 0) w := by
  rw [show (9999 : Nat) = 9997 + 1 + 1 from rfl, Op.equalIn]
  rw [Sem.run_bind, run_underlying Try.underlying70]
  simp only [Result.andThen_ok]
  have hr : List.range' 0 4 = [0, 1, 2, 3] := rfl
  by_cases h3 : x3 = 0 <;> by_cases h4 : x4 = 0 <;> by_cases h5 : x5 = 0 <;> by_cases h6 : x6 = 0 <;> go_simp
theorem neq72 (x0 x1 x2 x3 x4 x5 x6 : Int) (w : World) : (binOp .neq 72 (.agg #[.int .u8 x0, .int .u8 x1, .int .u8 x2, .int .u8 x3, .int .u8 x4, .int .u8 x5, .int .u8 x6]) (.agg #[.int .u8 66, .int .u8 89, .int .u8 0, .int .u8 0, .int .u8 0, .int .u8 0, .int .u8 0])).run Try.prog w =
    .ok (.bool (!(x0 == 66 && x1 == 89 && x2 == 0 && x3 == 0 && x4 == 0 && x5 == 0 && x6 == 0))) w := by
  have h := eq70 x3 x4 x5 x6
  by_cases h0 : x0 = 66 <;> by_cases h1 : x1 = 89 <;> by_cases h2 : x2 = 0 <;> go_simp
  by_cases h3 : x3 = 0 <;> by_cases h4 : x4 = 0 <;> by_cases h5 : x5 = 0 <;> by_cases h6 : x6 = 0 <;> simp [h3, h4, h5, h6]
end Go.Proofs.Ytofhdehigfdmkaa
