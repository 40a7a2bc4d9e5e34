/- Walks: frames made of numbers. -/
import Derived.Test.YtaipifjmkbcjjaaDoorZAw
import Derived.Test.YtaipifjmkbcjjaaDoorZSp
namespace Go.Proofs.YtaipifjmkbcjjaaDoor
open Go.RowKit Go.Sort

def madeM (k : Int) : Fr := ⟨1 + k % 3, 1 + k / 3 % 4, k / 12 % 100, k / 1200 % 100⟩
theorem madeM_ok (k : Int) : chk (madeM k).t (madeM k).k (madeM k).a (madeM k).b = 0 := by
  apply chk_mk; unfold madeM; simp only []; omega

set_option maxHeartbeats 400000 in
theorem made_of (n : Int) (w : World) : Calls Tryd.prog 49 #[.int .i64 n] w fun e w' => e = .returned (madeM (n % 16777216)).v ∧ Below w.heap.size w w' := by
  have hp0 := Int.emod_nonneg n (show (16777216 : Int) ≠ 0 by decide)
  have hp1 := Int.emod_lt_of_pos n (show (0 : Int) < 16777216 by decide)
  have hmo : ∀ W, Calls Tryd.prog 18 #[.int .i64 n, .int .i64 16777216] W fun e w' => e = .returned (.int .i64 (n % 16777216)) ∧ W = w' := fun W => mod_any n 16777216 W (by decide) (by decide)
  generalize n % 16777216 = m at *
  go_enter Tryd.func49, Tryd.ntmps49
  go_wp2_with (first
      | (go_at_call 18; refine (hmo _).mono ?_; rintro e w1 ⟨rfl, rfl⟩)
      | fail)
  refine bodyPost_ret (v := (madeM m).v) ?_ rfl ⟨rfl, below_alloc _ _⟩
  simp [results, Tryd.results49, go_sem, madeM]

/-- The form of the frame of a number. -/
def madeL (m : Int) : List UInt8 := form (madeM m).t (madeM m).k (madeM m).a (madeM m).b
theorem madeL_len (m : Int) : 10 ≤ (madeL m).length ∧ (madeL m).length ≤ 12 := by
  have h1 := form_len (madeM m).t (madeM m).k (madeM m).a (madeM m).b
  have h2 := pay_len (madeM m).t (madeM m).k (madeM m).a (madeM m).b
  unfold madeL; omega

theorem madeL_spoilt (m : Int) (k : Nat) (hk : k < (madeL m).length) (x : UInt8) (hx : (madeL m).getD k 0 ≠ x) : (decS (spoilt (madeL m) k x)).er ≠ 0 := by
  intro e
  obtain ⟨hf, -⟩ := decS_form e
  have h2 : madeL m = (madeL m).take k ++ (madeL m).getD k 0 :: (madeL m).drop (k + 1) := by
    rw [← drop_cons hk, List.take_append_drop]
  exact hx (form_spoilt h2 hf.symm)

end Go.Proofs.YtaipifjmkbcjjaaDoor
