/- Walks: what arrives at a port. -/
import Derived.Test.YtaipifjmkbcjjaaDoorL
import Derived.Test.YtaipifjmkbcjjaaDoorM
import Derived.Test.YtaipifjmkbcjjaaDoorQ
namespace Go.Proofs.YtaipifjmkbcjjaaDoor
open Go.RowKit Go.Sort

/-- The cells of a configuration that do not matter, at zero. -/
def x0 (i : Nat) : Value := if i = 1 ∨ i = 13 ∨ i = 23 then .slice none 0 0 else if i = 14 ∨ i = 17 ∨ i = 20 then .int .u64 0 else .int .i64 0

theorem info40 : (Tryd.prog.info? 40).map (·.size) = some 25 := by kernel_rfl

theorem below_grown {B : Nat} {w0 w w' : World} {g : Nat} (h : Below B w0 w) (hg : w.grownBy w' (some g)) (hB : B ≤ g) (hs : B ≤ w.heap.size) : Below B w0 w' :=
  h.grown hg hs (fun k hk => by cases hk; exact hB)

set_option maxRecDepth 100000 in
theorem four_any (w : World) : Calls Tryd.prog 24 #[] w fun e w' => e = .returned (.agg (cfgA 4 2 x0)) ∧ Below w.heap.size w w' := by
  go_enter Tryd.func24, Tryd.ntmps24
  go_wp2_with (refine wpList_store_bl rfl 40 (.tmp 0) (.tmp 1) rfl _ rfl 40 _ _ rfl (Bl.new _ _ _) rfl info40 ?_ ?_)
  · simp [Value.oneCell']
  · intro w1 hB1 hG1
    go_wp2
    refine bodyPost_ret (v := .agg (cfgA 4 2 x0)) ?_ rfl ⟨rfl, below_grown (below_alloc _ _) hG1 (Nat.le_refl _) (by simp)⟩
    exact results_bl (d := .struct _) rfl _ _ _ 40 _ rfl hB1 Tryd.underlying40 rfl info40

set_option maxRecDepth 100000 in
set_option maxHeartbeats 400000 in
theorem fitsE_ok (f c k a b : Int) (x : Nat → Value) (w : World) (h : vErr f c = 0) :
    Calls Tryd.prog 27 #[.agg (cfgA f c x), .agg #[.int .i64 k, .int .i64 a, .int .i64 b]] w fun e w' => e = .returned (.tuple #[.bool (fitsB f c k a b), .int .i64 0]) ∧ Below w.heap.size w w' := by
  have hf : 2 ≤ f ∧ f ≤ 64 := by unfold vErr at h; split at h <;> omega
  have H := Lib.hid h
  clear h
  have HB := Lib.hid ((Bl.new w (cfgA f c x) 40).alloc (.cells #[.int .i64 k, .int .i64 a, .int .i64 b] 43))
  go_enter Tryd.func27, Tryd.ntmps27
  go_wp2_with (refine wpList_load_bl rfl 40 (.tmp 2) rfl _ rfl 40 _ _ HB.out Tryd.underlying40 rfl info40 ?_)
  refine (valid_any _ _ _ _).mono ?_
  rintro e w1 ⟨rfl, hb⟩
  rw [H.out]
  have hB1 := Lib.hid (HB.out.below hb HB.out.lt)
  have hB2 : Bl (w.heap.size + 1) #[.int .i64 k, .int .i64 a, .int .i64 b] 43 w1 := by
    have := (Bl.new (w.alloc (.cells (cfgA f c x) 40)) #[.int .i64 k, .int .i64 a, .int .i64 b] 43).below hb (by simp only [World.size_alloc]; omega)
    rw [World.size_alloc] at this
    exact this
  have HW := Lib.hid ((((Below.refl _ _).alloc (Nat.le_refl _) (.cells (cfgA f c x) 40)).alloc (by simp) (.cells #[.int .i64 k, .int .i64 a, .int .i64 b] 43)).trans (hb.mono (by simp only [World.size_alloc]; omega)))
  clear hb HB
  have c2 := hB2.cell
  go_wp2_with (refine wpList_load_bl rfl 40 (.tmp 2) rfl _ rfl 40 _ _ hB1.out Tryd.underlying40 rfl info40 ?_)
  refine (fits_any _ _ _ _ _ _ _ hf.1 hf.2).mono ?_
  rintro e w2 ⟨rfl, hb2⟩
  clear c2
  go_wp2
  go_ret2
  exact ⟨rfl, HW.out.trans (hb2.mono HW.out.size)⟩

set_option maxRecDepth 100000 in
set_option maxHeartbeats 400000 in
theorem fitsE_bad (f c k a b : Int) (x : Nat → Value) (w : World) (h : vErr f c ≠ 0) :
    Calls Tryd.prog 27 #[.agg (cfgA f c x), .agg #[.int .i64 k, .int .i64 a, .int .i64 b]] w fun e w' => e = .returned (.tuple #[.bool false, .int .i64 (vErr f c)]) ∧ Below w.heap.size w w' := by
  have hne : (vErr f c != 0) = true := by simpa using h
  clear h
  have HB := Lib.hid ((Bl.new w (cfgA f c x) 40).alloc (.cells #[.int .i64 k, .int .i64 a, .int .i64 b] 43))
  go_enter Tryd.func27, Tryd.ntmps27
  go_wp2_with (refine wpList_load_bl rfl 40 (.tmp 2) rfl _ rfl 40 _ _ HB.out Tryd.underlying40 rfl info40 ?_)
  refine (valid_any _ _ _ _).mono ?_
  rintro e w1 ⟨rfl, hb⟩
  have HW := Lib.hid ((((Below.refl _ _).alloc (Nat.le_refl _) (.cells (cfgA f c x) 40)).alloc (by simp) (.cells #[.int .i64 k, .int .i64 a, .int .i64 b] 43)).trans (hb.mono (by simp only [World.size_alloc]; omega)))
  clear hb HB
  go_wp2
  go_ret2
  exact ⟨rfl, HW.out⟩

end Go.Proofs.YtaipifjmkbcjjaaDoor
