/- Walks: the chapter's examples of frames hold. -/
import Derived.Test.YtaipifjmkbcjjaaDoorZSc
import Derived.Test.YtaipifjmkbcjjaaDoorZg3
import Derived.Lib.QuietBelow
namespace Go.Proofs.YtaipifjmkbcjjaaDoor
open Go.RowKit Go.Sort

def frH : Fr := ⟨1, 1, 3, 1⟩
abbrev cH : Array Value := #[.int .i64 1, .int .i64 1, .int .i64 3, .int .i64 1]
abbrev vH : Value := .agg cH

theorem hall_any (w : World) : Calls Tryd.prog 53 #[] w fun e w' => e = .returned vH ∧ Below w.heap.size w w' := by
  go_enter Tryd.func53, Tryd.ntmps53
  go_wp2
  exact bodyPost_ret (v := vH) (by simp [results, Tryd.results53, go_sem]) rfl ⟨rfl, below_alloc _ _⟩

abbrev formH : List UInt8 := form 1 1 3 1

theorem form_any (w : World) (hg : Glob w) : Calls Tryd.prog 50 #[] w fun e w' => e = .returned (.tuple #[.string (bs formH), .bool true]) ∧ Below w.heap.size w w' := by
  have hen : ∀ W, Below w.heap.size w W → Calls Tryd.prog 48 #[vH] W fun e w' => e = .returned (.tuple #[.string (bs formH), .int .i64 0]) ∧ Below W.heap.size W w' := fun W hb => encode_ok 1 1 3 1 W (by decide) (hg.next hb)
  have hsz : (bs formH).size = 10 := by rw [bs_size]; decide +kernel
  have hx : (bs formH).extract 0 7 = ⟨#[60, 80, 104, 51, 44, 49, 59]⟩ := by decide +kernel
  have h9 : ∀ h : 9 < (bs formH).size, ((bs formH)[9]'h).toNat = 62 := fun h => by
    have := byte_at (bs formH) 9 h
    rw [← this, bs_list]; decide +kernel
  have hl1 : 9 < (bs formH).size := by rw [hsz]; decide
  generalize bs formH = s at *
  have h9' := h9 hl1
  clear h9
  have HB0 := Lib.hid (Below.refl w.heap.size w)
  go_enter Tryd.func50, Tryd.ntmps50
  go_wp2_with (first
    | (go_at_call 53; refine (hall_any _).mono ?_; rintro e w1 ⟨rfl, hb1⟩; have HB1 := Lib.hid (HB0.out.trans hb1); clear hb1)
    | (go_at_call 48; refine (hen _ HB1.out).mono ?_; rintro e w2 ⟨rfl, hb2⟩; have HB2 := Lib.hid (HB1.out.trans (hb2.mono HB1.out.size)); clear hb2))
  go_quiet (fail)
  go_wp2
  go_ret2
  exact ⟨rfl, belowN HB2.out nq⟩

theorem formH_items : framesOf (items formH) = [frH] ∧ junkOf (items formH) = 0 := by decide +kernel

set_option maxHeartbeats 1000000 in
theorem awake06 (w : World) (hg : Glob w) : Calls Tryd.prog 42 #[] w fun e w' => e = .returned (.bool true) ∧ Below w.heap.size w w' := by
  have hfo := form_any w hg
  have hde : ∀ W, Below w.heap.size w W → Calls Tryd.prog 43 #[.string (bs formH)] W fun e w' => e = .returned (.tuple #[vH, .agg #[.int .i64 0, .int .i64 0]]) ∧ Below W.heap.size W w' := fun W hb => by
    have h := decode_fields (bs formH) W (by rw [bs_size]; decide +kernel) (hg.next hb) ⟨1, 1, 3, 1, 0, 0⟩ (by rw [bs_list]; exact form_dec (by decide))
    exact h
  have hsc : ∀ W, Below w.heap.size w W → Calls Tryd.prog 45 #[.string (bs formH)] W fun e w' => ∃ g cap, e = .returned (.tuple #[.slice (some ⟨g, 0, none⟩) 1 cap, .int .i64 0]) ∧ Below W.heap.size W w' := fun W hb => by
    refine (scan_any formH (by decide +kernel) W (hg.next hb)).mono ?_
    rintro e w' ⟨v, he, ho, hb'⟩
    rw [formH_items.2] at he
    rw [formH_items.1] at ho
    obtain ⟨g, cap, rfl⟩ := ownsRow_succ (k := 0) ho
    exact ⟨g, cap, he, hb'⟩
  generalize bs formH = s at *
  have HB0 := Lib.hid (Below.refl w.heap.size w)
  go_enter Tryd.func42, Tryd.ntmps42
  go_wp2_with (first
    | (go_at_call 50; refine hfo.mono ?_; rintro e w1 ⟨rfl, hb1⟩; have HB1 := Lib.hid (HB0.out.trans hb1); clear hb1)
    | (go_at_call 43; refine (hde _ HB1.out).mono ?_; rintro e w2 ⟨rfl, hb2⟩; have HB2 := Lib.hid (HB1.out.trans (hb2.mono HB1.out.size)); clear hb2)
    | fail)
  have HF := Lib.hid ((Bl.new w2 cH 68).alloc (.cells #[.int .i64 0, .int .i64 0] 70))
  have HE := Lib.hid (Bl.new (w2.alloc (.cells cH 68)) #[.int .i64 0, .int .i64 0] 70)
  rw [World.size_alloc] at HE
  have HB3 := Lib.hid ((HB2.out.alloc HB2.out.size (.cells cH 68)).alloc (HB2.out.alloc HB2.out.size (.cells cH 68)).size (.cells #[.int .i64 0, .int .i64 0] 70))
  generalize (w2.alloc (.cells cH 68)).alloc (.cells #[.int .i64 0, .int .i64 0] 70) = w3 at *
  generalize w2.heap.size = A at *
  refine (hsc _ HB3.out).mono ?_
  rintro e W ⟨g, cap, rfl, hb4⟩
  have HB4 := Lib.hid (HB3.out.trans (hb4.mono HB3.out.size))
  have HF4 := Lib.hid (HF.out.below hb4 HF.out.lt)
  have HE4 := Lib.hid (HE.out.below hb4 HE.out.lt)
  clear hb4 HF HE HB3 hsc hde hfo
  go_wp2_with fail
  have k0 : ∀ d os, (grow (redrawn W d) os).cell? ⟨A, 0, none⟩ = some (.int .i64 1) := fun d os => cell_regrown (by rw [HF4.out.cell]; rfl) d os
  have k1 : ∀ d os, (grow (redrawn W d) os).cell? ⟨A, 1, none⟩ = some (.int .i64 1) := fun d os => cell_regrown (by rw [HF4.out.cell]; rfl) d os
  have k2 : ∀ d os, (grow (redrawn W d) os).cell? ⟨A, 2, none⟩ = some (.int .i64 3) := fun d os => cell_regrown (by rw [HF4.out.cell]; rfl) d os
  have k3 : ∀ d os, (grow (redrawn W d) os).cell? ⟨A, 3, none⟩ = some (.int .i64 1) := fun d os => cell_regrown (by rw [HF4.out.cell]; rfl) d os
  have k4 : ∀ d os, (grow (redrawn W d) os).cell? ⟨A + 1, 0, none⟩ = some (.int .i64 0) := fun d os => cell_regrown (by rw [HE4.out.cell]; rfl) d os
  have k5 : ∀ d os, (grow (redrawn W d) os).cell? ⟨A + 1, 1, none⟩ = some (.int .i64 0) := fun d os => cell_regrown (by rw [HE4.out.cell]; rfl) d os
  have c53 : ∀ d os, _ := fun d os => Calls.regrown_of (hall_any (grow (redrawn W d) os))
  refine wp_region_quiet_below (by kernel_rfl) (by kernel_rfl) ?_
  repeat (quiet_step (exact c53 _ _))
  clear k0 k1 k2 k3 k4 k5 c53
  refine wpQuiet_nil ?_
  intro _ hw'
  obtain ⟨⟨dq, osq⟩, hw''⟩ := hw'
  subst hw''
  dsimp only
  have HB5 := Lib.hid (HB4.out.trans ((below_regrown W dq osq).mono HB4.out.size))
  go_wp2
  go_ret
  exact ⟨by first | rfl | trivial, HB5.out⟩
end Go.Proofs.YtaipifjmkbcjjaaDoor
