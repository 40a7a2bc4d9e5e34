/- Walks: the reference of ports: small functions. -/
import Derived.Test.YtaipifjmkbcjjaaDoorS
import Derived.Test.YtaipifjmkbcjjaaDoorF
namespace Go.Proofs.YtaipifjmkbcjjaaDoor
open Go.RowKit Go.Sort

theorem wrong_any (p : Int) (w : World) : Calls Tryd.prog 64 #[.int .i64 p] w fun e w' => e = .returned (.bool (!decide (0 ≤ p ∧ p < 24))) ∧ w = w' := by
  go_enter Tryd.func64, Tryd.ntmps64
  go_wp2
  all_goals
    go_ret
    refine ⟨bool_ret ?_, rfl⟩
    rw [Bool.eq_iff_iff]
    simp
    try omega

theorem odomain_ok (p : Int) (w : World) (h0 : 0 ≤ p) (h1 : p < 24) :
    Calls Tryd.prog 28 #[.int .i64 p] w fun e w' => e = .returned (.tuple #[.int .i64 (1 + p / 8), .int .i64 0]) ∧ w = w' := by
  have hd : (!decide (0 ≤ p ∧ p < 24)) = false := by simp; omega
  have hw := fun W => wrong_any p W
  rw [hd] at hw
  clear hd
  go_enter Tryd.func28, Tryd.ntmps28
  go_wp2_with (go_at_call 64; refine (hw _).mono ?_; rintro e w' ⟨rfl, rfl⟩)
  go_ret2
  exact ⟨rfl, rfl⟩
theorem odomain_bad (p : Int) (w : World) (h : ¬ (0 ≤ p ∧ p < 24)) :
    Calls Tryd.prog 28 #[.int .i64 p] w fun e w' => e = .returned (.tuple #[.int .i64 0, .int .i64 2]) ∧ w = w' := by
  have hd : (!decide (0 ≤ p ∧ p < 24)) = true := by simp; omega
  have hw := fun W => wrong_any p W
  rw [hd] at hw
  clear hd h
  go_enter Tryd.func28, Tryd.ntmps28
  go_wp2_with (go_at_call 64; refine (hw _).mono ?_; rintro e w' ⟨rfl, rfl⟩)
  go_ret2
  exact ⟨rfl, rfl⟩

set_option maxHeartbeats 400000 in
theorem ovalid_any (f c : Int) (x : Nat → Value) (w : World) :
    Calls Tryd.prog 65 #[.agg (cfgA f c x)] w fun e w' => e = .returned (.bool (decide (vErr f c = 0))) ∧ Below w.heap.size w w' := by
  go_enter Tryd.func65, Tryd.ntmps65
  go_wp2
  all_goals
    go_ret
    refine ⟨bool_ret ?_, (Below.refl _ _).alloc (Nat.le_refl _) _⟩
    unfold vErr
    split <;> simp <;> omega

set_option maxHeartbeats 2000000 in
theorem ofits_any (f c k a b : Int) (x : Nat → Value) (w : World) :
    Calls Tryd.prog 66 #[.agg (cfgA f c x), .agg #[.int .i64 k, .int .i64 a, .int .i64 b]] w fun e w' => e = .returned (.bool (fitsB f c k a b)) ∧ Below w.heap.size w w' := by
  go_enter Tryd.func66, Tryd.ntmps66
  go_wp2
  all_goals
    go_ret
    refine ⟨bool_ret ?_, ((Below.refl _ _).alloc (Nat.le_refl _) _).alloc (by simp) _⟩
    rw [Bool.eq_iff_iff]
    simp_all [fitsB, inB]
    try omega
end Go.Proofs.YtaipifjmkbcjjaaDoor
