/- Walks: the event of a number. -/
import Derived.Test.YtaipifjmkbcjjaaDoorS
namespace Go.Proofs.YtaipifjmkbcjjaaDoor
open Go.RowKit Go.Sort

def evM (m : Int) : Int × Int × Int :=
  if m % 4 = 0 then (1, m / 4 % 4, 1 + m / 16 % 2) else if m % 4 = 1 then (2, 1 + m / 4 % 2, m / 8 % 4) else if m % 4 = 2 then (3, 1 + m / 4 % 99, 0) else (4, 1 + m / 4 % 2, m / 8 % 4)

theorem evM_fits (m : Int) : fitsB 4 2 (evM m).1 (evM m).2.1 (evM m).2.2 = true := by
  unfold evM fitsB inB
  split
  · simp; omega
  · split
    · simp; omega
    · split
      · simp; omega
      · simp; omega

set_option maxHeartbeats 400000 in
theorem event_of (n : Int) (w : World) :
    Calls Tryd.prog 25 #[.int .i64 n] w fun e w' => e = .returned (.agg #[.int .i64 (evM (n % 65536)).1, .int .i64 (evM (n % 65536)).2.1, .int .i64 (evM (n % 65536)).2.2]) ∧ Below w.heap.size w w' := by
  have hp0 := Int.emod_nonneg n (show (65536 : Int) ≠ 0 by decide)
  have hp1 := Int.emod_lt_of_pos n (show (0 : Int) < 65536 by decide)
  have hmo : ∀ W, Calls Tryd.prog 18 #[.int .i64 n, .int .i64 65536] W fun e w' => e = .returned (.int .i64 (n % 65536)) ∧ W = w' := fun W => mod_any n 65536 W (by decide) (by decide)
  generalize n % 65536 = m at *
  go_enter Tryd.func25, Tryd.ntmps25
  go_wp2_with (first
      | (go_at_call 18; refine (hmo _).mono ?_; rintro e w1 ⟨rfl, rfl⟩)
      | fail)
  all_goals
    refine bodyPost_ret (v := .agg #[.int .i64 (evM m).1, .int .i64 (evM m).2.1, .int .i64 (evM m).2.2]) ?_ rfl ⟨rfl, below_alloc _ _⟩
    unfold evM
    simp only [beq_iff_eq, beq_eq_false_iff_ne, ne_eq] at *
    simp [results, Tryd.results25, go_sem, *]
end Go.Proofs.YtaipifjmkbcjjaaDoor
