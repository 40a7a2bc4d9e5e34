/- Walks: PortBack. -/
import Derived.Test.YtaipifjmkbcjjaaDoorSp
import Derived.Lib.QuietBelow
namespace Go.Proofs.YtaipifjmkbcjjaaDoor
open Go.RowKit Go.Sort

theorem back_judged (q m : Int) (h0 : 0 ≤ q) (h1 : q < 24) (j : Nat) (hj : j < 24) :
    (q / 8 = (j : Int) / 8 → judgedB j (sentL q m) (evM m).1 (evM m).2.1 (evM m).2.2 0 = true) ∧ (¬ q / 8 = (j : Int) / 8 → judgedB j (sentL q m) 0 0 0 5 = true) := by
  have hd : decS (sentL q m) = ⟨1 + q / 8, (evM m).1, (evM m).2.1, (evM m).2.2, 0, 0⟩ := form_dec (sent_ok q m h0 h1)
  have hf := evM_fits m
  have e : jdgE 4 2 j (sentL q m) = (jdg 4 2 (1 + (j : Int) / 8) (decS (sentL q m)), 0) := by
    unfold jdgE; rw [if_neg (by decide), if_neg (by omega)]
  constructor
  · intro h
    unfold judgedB; rw [e, hd]; unfold jdg
    rw [if_neg (by simp), if_neg (by rw [hf]; simp), if_neg (by simp; omega)]
    simp
  · intro h
    unfold judgedB; rw [e, hd]; unfold jdg
    rw [if_neg (by simp), if_neg (by rw [hf]; simp), if_pos (by simp; omega)]
    simp

set_option maxRecDepth 100000 in
set_option maxHeartbeats 1000000 in
theorem PortBack_any (n p : Int) (w : World) (hg : Glob w) :
    Calls Tryd.prog 5 #[.int .i64 n, .int .i64 p] w fun e w' => e = .returned (.bool true) ∧ Below w.heap.size w w' := by
  have hp0 := Int.emod_nonneg p (show (24 : Int) ≠ 0 by decide)
  have hp1 := Int.emod_lt_of_pos p (show (0 : Int) < 24 by decide)
  have hmo : ∀ W, Calls Tryd.prog 18 #[.int .i64 p, .int .i64 24] W fun e w' => e = .returned (.int .i64 (p % 24)) ∧ W = w' := fun W => mod_any p 24 W (by decide) (by decide)
  generalize p % 24 = q at *
  have hev : ∀ W, Calls Tryd.prog 25 #[.int .i64 n] W _ := fun W => event_of n W
  generalize n % 65536 = m at *
  have hln := sent_len q m
  have hjp := back_judged q m hp0 hp1
  have hda := sent_data q m hp0 hp1
  have hfi := evM_fits m
  obtain ⟨L, hL⟩ : ∃ L, sentL q m = L := ⟨_, rfl⟩
  obtain ⟨k, a, b, hE⟩ : ∃ k a b, evM m = (k, a, b) := ⟨_, _, _, rfl⟩
  rw [hL] at hda hjp hln
  rw [hE] at hda hev hjp hfi
  simp only [] at hda hev hjp hfi
  clear hL hE
  have hdat : ∀ W, Below w.heap.size w W → Calls Tryd.prog 23 #[.agg (cfgA 4 2 x0), .int .i64 q, .agg #[.int .i64 k, .int .i64 a, .int .i64 b]] W fun e w' => e = .returned (.tuple #[.string (bs L), .int .i64 0]) ∧ Below W.heap.size W w' :=
    fun W hb => data_any 4 2 q k a b x0 W (hg.next hb) L 0 hda
  have hfit : ∀ W, Calls Tryd.prog 27 #[.agg (cfgA 4 2 x0), .agg #[.int .i64 k, .int .i64 a, .int .i64 b]] W fun e w' => e = .returned (.tuple #[.bool true, .int .i64 0]) ∧ Below W.heap.size W w' := fun W => by
    have h := fitsE_ok 4 2 k a b x0 W (by decide)
    rw [hfi] at h; exact h
  have hju1 : ∀ (j : Nat) W, j < 24 → q / 8 = (j : Int) / 8 → Below w.heap.size w W → Calls Tryd.prog 26 #[.int .i64 j, .string (bs L), .agg #[.int .i64 k, .int .i64 a, .int .i64 b], .int .i64 0] W fun e w' => e = .returned (.bool true) ∧ Below W.heap.size W w' := fun j W hj hq hb => by
    have h2 := judged_any j k a b 0 (bs L) W (by rw [bs_size]; unfold maxLen; omega) (hg.next hb)
    rw [bs_list, (hjp j hj).1 hq] at h2; exact h2
  have hju2 : ∀ (j : Nat) W, j < 24 → ¬ q / 8 = (j : Int) / 8 → Below w.heap.size w W → Calls Tryd.prog 26 #[.int .i64 j, .string (bs L), .agg #[.int .i64 0, .int .i64 0, .int .i64 0], .int .i64 5] W fun e w' => e = .returned (.bool true) ∧ Below W.heap.size W w' := fun j W hj hq hb => by
    have h2 := judged_any j 0 0 0 5 (bs L) W (by rw [bs_size]; unfold maxLen; omega) (hg.next hb)
    rw [bs_list, (hjp j hj).2 hq] at h2; exact h2
  have haw : ∀ W, Below w.heap.size w W → Calls Tryd.prog 22 #[] W _ := fun W hb => awake_any W (hg.next hb)
  have hcf := four_any
  generalize Value.agg (cfgA 4 2 x0) = V at *
  generalize bs L = s at *
  clear hda hfi hjp hln
  have HB0 := Lib.hid (Below.refl w.heap.size w)
  go_enter Tryd.func5, Tryd.ntmps5
  go_upto_region 2 with (first
      | (go_at_call 25; refine (hev _).mono ?_; rintro e w1 ⟨rfl, hb1⟩; have HB1 := Lib.hid (HB0.out.trans hb1); clear hb1)
      | (go_at_call 18; refine (hmo _).mono ?_; rintro e w4 ⟨rfl, rfl⟩; clear hmo)
      | fail)
  clear hev
  have HE := Lib.hid (Bl.new w1 #[.int .i64 k, .int .i64 a, .int .i64 b] 43)
  have HB2 := Lib.hid (HB1.out.alloc HB1.out.size (.cells #[.int .i64 k, .int .i64 a, .int .i64 b] 43))
  generalize w1.alloc (.cells #[.int .i64 k, .int .i64 a, .int .i64 b] 43) = W at *
  obtain ⟨B, hB⟩ : ∃ B, w1.heap.size = B := ⟨_, rfl⟩
  have HBs : Hid (w.heap.size ≤ B) := by show _; rw [← hB]; exact HB1.out.size
  rw [hB] at HE ⊢
  clear hB
  have hlt := HE.out.lt
  have k0 : ∀ d os, (grow (redrawn W d) os).cell? ⟨B, 0, none⟩ = some (.int .i64 k) := fun d os => cell_regrown (by rw [HE.out.cell]; rfl) d os
  have k1 : ∀ d os, (grow (redrawn W d) os).cell? ⟨B, 1, none⟩ = some (.int .i64 a) := fun d os => cell_regrown (by rw [HE.out.cell]; rfl) d os
  have k2 : ∀ d os, (grow (redrawn W d) os).cell? ⟨B, 2, none⟩ = some (.int .i64 b) := fun d os => cell_regrown (by rw [HE.out.cell]; rfl) d os
  have c24 : ∀ d os, _ := fun d os => Calls.regrown_of (hcf (grow (redrawn W d) os))
  have c27 : ∀ d os, _ := fun d os => Calls.regrown_of (hfit (grow (redrawn W d) os))
  refine wp_region_quiet_below (by kernel_rfl) (by kernel_rfl) ?_
  repeat (quiet_step (first | (go_at_call 24; exact c24 _ _) | (go_at_call 27; exact c27 _ _)))
  clear k0 k1 k2 c24 c27
  refine wpQuiet_nil ?_
  intro _ hw'
  obtain ⟨⟨dq, osq⟩, hw''⟩ := hw'
  subst hw''
  dsimp only
  have HE1 := Lib.hid (HE.out.below (below_regrown W dq osq) hlt)
  have HB3 := Lib.hid (HB2.out.trans ((below_regrown W dq osq).mono HB2.out.size))
  clear hlt HE
  generalize grow (redrawn W dq) osq = W2 at *
  go_upto_region 3 with fail
  have hlt := HE1.out.lt
  have k0 : ∀ d os, (grow (redrawn W2 d) os).cell? ⟨B, 0, none⟩ = some (.int .i64 k) := fun d os => cell_regrown (by rw [HE1.out.cell]; rfl) d os
  have k1 : ∀ d os, (grow (redrawn W2 d) os).cell? ⟨B, 1, none⟩ = some (.int .i64 a) := fun d os => cell_regrown (by rw [HE1.out.cell]; rfl) d os
  have k2 : ∀ d os, (grow (redrawn W2 d) os).cell? ⟨B, 2, none⟩ = some (.int .i64 b) := fun d os => cell_regrown (by rw [HE1.out.cell]; rfl) d os
  have c24 : ∀ d os, _ := fun d os => Calls.regrown_of (hcf (grow (redrawn W2 d) os))
  have c23 : ∀ d os, _ := fun d os => Calls.regrown_of (hdat (grow (redrawn W2 d) os) (HB3.out.trans ((below_regrown W2 d os).mono HB3.out.size)))
  refine wp_region_quiet_below (by kernel_rfl) (by kernel_rfl) ?_
  repeat (quiet_step (first | (go_at_call 24; exact c24 _ _) | (go_at_call 23; exact c23 _ _)))
  clear k0 k1 k2 c24 c23 hdat hfit hcf
  refine wpQuiet_nil ?_
  intro _ hw'
  obtain ⟨⟨dq, osq⟩, hw''⟩ := hw'
  subst hw''
  dsimp only
  have HE2 := Lib.hid (HE1.out.below (below_regrown W2 dq osq) hlt)
  have HB4 := Lib.hid (HB3.out.trans ((below_regrown W2 dq osq).mono HB3.out.size))
  clear hlt HE1
  generalize grow (redrawn W2 dq) osq = W3 at *
  go_wp2
  go_loopw [11] (fun i wr => ∃ k' : Nat, k' ≤ 24 ∧ i = .int .i64 k' ∧ Bl B #[.int .i64 k, .int .i64 a, .int .i64 b] 43 wr ∧ Below w.heap.size w wr)
    (fun i _ => 24 - (intOf i).toNat)
  case atStart => exact ⟨0, by omega, rfl, HE2.out, HB4.out⟩
  case round =>
    obtain ⟨j, hj, rfl, hbl, hb⟩ := hrel
    have HL := Lib.hid hbl
    have HBr := Lib.hid hb
    have hce := hbl.cell
    have hq2 : (q / 8 = (j : Int) / 8) ∨ ¬ (q / 8 = (j : Int) / 8) := Classical.em _
    have hj1 : (j : Int) < 24 → q / 8 = (j : Int) / 8 → ∀ W, Below w.heap.size w W → _ := fun h1 h2 W h => hju1 j W (by omega) h2 h
    have hj2 : (j : Int) < 24 → ¬ q / 8 = (j : Int) / 8 → ∀ W, Below w.heap.size w W → _ := fun h1 h2 W h => hju2 j W (by omega) h2 h
    clear hju1 hju2 hbl hb
    rcases hq2 with h | h
    · have he : ((j : Int) / 8 == q / 8) = true := by simp; omega
      have he2 : ((j : Int) / 8 != q / 8) = false := by simp; omega
      clear hj2
      go_wp2_with (first
        | (go_at_call 26; refine (hj1 (by assumption) h _ HBr.out).mono ?_; rintro e w5 ⟨rfl, hb5⟩; have HB5 := Lib.hid (HBr.out.trans (hb5.mono HBr.out.size)); have HL5 := Lib.hid (HL.out.below hb5 HL.out.lt); clear hb5)
        | (go_at_call 22; refine (haw _ HBr.out).mono ?_; rintro e w6 ⟨rfl, hb6⟩; have HB7 := Lib.hid (HBr.out.trans (hb6.mono HBr.out.size)); clear hb6)
        | fail)
      · refine ⟨⟨j + 1, by omega, by go_num, HL5.out, HB5.out⟩, ?_⟩
        simp [intOf]; omega
    · have he : ((j : Int) / 8 == q / 8) = false := by simp; omega
      have he2 : ((j : Int) / 8 != q / 8) = true := by simp; omega
      clear hj1
      go_wp2_with (first
        | (go_at_call 26; refine (hj2 (by assumption) h _ HBr.out).mono ?_; rintro e w5 ⟨rfl, hb5⟩; have HB5 := Lib.hid (HBr.out.trans (hb5.mono HBr.out.size)); have HL5 := Lib.hid (HL.out.below hb5 HL.out.lt); clear hb5)
        | (go_at_call 22; refine (haw _ HBr.out).mono ?_; rintro e w6 ⟨rfl, hb6⟩; have HB7 := Lib.hid (HBr.out.trans (hb6.mono HBr.out.size)); clear hb6)
        | fail)
      · refine ⟨⟨j + 1, by omega, by go_num, HL5.out, HB5.out⟩, ?_⟩
        simp [intOf]; omega
      · go_ret
        exact ⟨by first | rfl | trivial, HB7.out⟩
end Go.Proofs.YtaipifjmkbcjjaaDoor
