/- Walks: frames checked and written. -/
import Derived.Test.YtaipifjmkbcjjaaDoorC
import Derived.Lib.QuietBelow
namespace Go.Proofs.YtaipifjmkbcjjaaDoor
open Go.RowKit

set_option maxHeartbeats 400000 in
theorem check_any (t k a b : Int) (w : World) :
    Calls Tryd.prog 54 #[.agg #[.int .i64 t, .int .i64 k, .int .i64 a, .int .i64 b]] w fun e w' => e = .returned (.int .i64 (chk t k a b)) ∧ Below w.heap.size w w' := by
  go_enter Tryd.func54, Tryd.ntmps54
  go_wp2
  all_goals
    go_ret
    refine ⟨ret_int ?_, ?_⟩
    · unfold chk; repeat' split
      all_goals omega
    · first | exact ((Below.refl _ _).alloc (Nat.le_refl _) _) | exact ((Below.refl _ _).alloc (Nat.le_refl _) _).alloc (by simp) _

set_option maxHeartbeats 400000 in
theorem refCheck_any (t k a b : Int) (w : World) :
    Calls Tryd.prog 59 #[.agg #[.int .i64 t, .int .i64 k, .int .i64 a, .int .i64 b]] w fun e w' => e = .returned (.int .i64 (chk t k a b)) ∧ Below w.heap.size w w' := by
  go_enter Tryd.func59, Tryd.ntmps59
  go_wp2
  all_goals
    go_ret
    refine ⟨ret_int ?_, ?_⟩
    · unfold chk; repeat' split
      all_goals omega
    · first | exact ((Below.refl _ _).alloc (Nat.le_refl _) _) | exact ((Below.refl _ _).alloc (Nat.le_refl _) _).alloc (by simp) _

end Go.Proofs.YtaipifjmkbcjjaaDoor
