/- Walks: WireBack. -/
import Derived.Test.YtaipifjmkbcjjaaDoorMk
import Derived.Lib.QuietBelow
import Derived.Deep.CutRange
namespace Go.Proofs.YtaipifjmkbcjjaaDoor
open Go.RowKit Go.Sort

theorem decA_zero (L : List UInt8) (h : (decA L).er ≠ 0) : (decA L).t = 0 ∧ (decA L).k = 0 ∧ (decA L).a = 0 ∧ (decA L).b = 0 := by
  unfold decA at h ⊢
  repeat' split at h
  all_goals simp_all
theorem decS_zero (L : List UInt8) (h : (decS L).er ≠ 0) : (decS L).t = 0 ∧ (decS L).k = 0 ∧ (decS L).a = 0 ∧ (decS L).b = 0 := by
  by_cases hl : 16 < L.length
  · have e : decS L = ⟨0, 0, 0, 0, 4, 16⟩ := by rw [decS, if_pos hl]
    rw [e]; exact ⟨rfl, rfl, rfl, rfl⟩
  · cases hf : L.findIdx? (fun c => decide (126 < c.toNat)) with
    | none =>
      have e : decS L = decA L := by rw [decS, if_neg hl, hf]
      rw [e] at h ⊢; exact decA_zero L h
    | some i =>
      have e : decS L = bey (decA (L.take i)) i := by rw [decS, if_neg hl, hf]
      rw [e]; exact ⟨rfl, rfl, rfl, rfl⟩

set_option maxHeartbeats 4000000 in
theorem WireBack_any (n : Int) (s : ByteArray) (w : World) (hg : Glob w) (hm : s.size ≤ maxLen) :
    Calls Tryd.prog 12 #[.int .i64 n, .string s] w fun e w' => e = .returned (.bool true) ∧ Below w.heap.size w w' := by
  have hma := made_of n
  generalize n % 16777216 = m at *
  have hln := madeL_len m
  have hok := madeM_ok m
  have hfd := form_dec hok
  have hen : ∀ W, Below w.heap.size w W → Calls Tryd.prog 48 #[(madeM m).v] W fun e w' => e = .returned (.tuple #[.string (bs (madeL m)), .int .i64 0]) ∧ Below W.heap.size W w' := fun W hb => encode_ok _ _ _ _ W hok (hg.next hb)
  have hde : ∀ W, Below w.heap.size w W → Calls Tryd.prog 43 #[.string (bs (madeL m))] W fun e w' => e = .returned (.tuple #[(madeM m).v, .agg #[.int .i64 0, .int .i64 0]]) ∧ Below W.heap.size W w' := fun W hb =>
    decode_fields (bs (madeL m)) W (by rw [bs_size]; unfold maxLen; omega) (hg.next hb) ⟨(madeM m).t, (madeM m).k, (madeM m).a, (madeM m).b, 0, 0⟩ (by rw [bs_list]; exact hfd)
  have haw : ∀ W, Below w.heap.size w W → Calls Tryd.prog 42 #[] W _ := fun W hb => awake06 W (hg.next hb)
  obtain ⟨t, k, a, b, hf⟩ : ∃ t k a b, madeM m = ⟨t, k, a, b⟩ := ⟨_, _, _, _, rfl⟩
  rw [hf] at hma hen hde
  have hsz : (bs (madeL m)).size ≤ 12 := by rw [bs_size]; omega
  generalize bs (madeL m) = u at *
  clear hf hok hfd hln
  have hsz2 : decide ((16 : Int) < (u.size : Int)) = false := by simp; omega
  have HB0 := Lib.hid (Below.refl w.heap.size w)
  go_enter Tryd.func12, Tryd.ntmps12
  go_upto_region 2 with (first
    | (go_at_call 49; refine (hma _).mono ?_; rintro e w1 ⟨rfl, hb1⟩; have HB1 := Lib.hid (HB0.out.trans hb1); clear hb1)
    | (go_at_call 48; refine (hen _ HB1.out).mono ?_; rintro e w2 ⟨rfl, hb2⟩; have HB2 := Lib.hid (HB1.out.trans (hb2.mono HB1.out.size)); clear hb2)
    | fail)
  go_upto_region 3 with (first
    | (go_at_call 43; refine (hde _ HB2.out).mono ?_; rintro e w3 ⟨rfl, hb3⟩; have HB3 := Lib.hid (HB2.out.trans (hb3.mono HB2.out.size)); clear hb3)
    | fail)
  clear hde hen
  have HF := Lib.hid ((Bl.new w3 #[.int .i64 t, .int .i64 k, .int .i64 a, .int .i64 b] 68).alloc (.cells #[.int .i64 0, .int .i64 0] 70))
  have HE := Lib.hid (Bl.new (w3.alloc (.cells #[.int .i64 t, .int .i64 k, .int .i64 a, .int .i64 b] 68)) #[.int .i64 0, .int .i64 0] 70)
  rw [World.size_alloc] at HE
  have HB4 := Lib.hid ((HB3.out.alloc HB3.out.size (.cells #[.int .i64 t, .int .i64 k, .int .i64 a, .int .i64 b] 68)).alloc (HB3.out.alloc HB3.out.size (.cells #[.int .i64 t, .int .i64 k, .int .i64 a, .int .i64 b] 68)).size (.cells #[.int .i64 0, .int .i64 0] 70))
  have HA : Hid (w.heap.size ≤ w3.heap.size) := HB3.out.size
  generalize (w3.alloc (.cells #[.int .i64 t, .int .i64 k, .int .i64 a, .int .i64 b] 68)).alloc (.cells #[.int .i64 0, .int .i64 0] 70) = W at *
  generalize w3.heap.size = A at *
  have k0 : ∀ d os, (grow (redrawn W d) os).cell? ⟨A, 0, none⟩ = some (.int .i64 t) := fun d os => cell_regrown (by rw [HF.out.cell]; rfl) d os
  have k1 : ∀ d os, (grow (redrawn W d) os).cell? ⟨A, 1, none⟩ = some (.int .i64 k) := fun d os => cell_regrown (by rw [HF.out.cell]; rfl) d os
  have k2 : ∀ d os, (grow (redrawn W d) os).cell? ⟨A, 2, none⟩ = some (.int .i64 a) := fun d os => cell_regrown (by rw [HF.out.cell]; rfl) d os
  have k3 : ∀ d os, (grow (redrawn W d) os).cell? ⟨A, 3, none⟩ = some (.int .i64 b) := fun d os => cell_regrown (by rw [HF.out.cell]; rfl) d os
  have k4 : ∀ d os, (grow (redrawn W d) os).cell? ⟨A + 1, 0, none⟩ = some (.int .i64 0) := fun d os => cell_regrown (by rw [HE.out.cell]; rfl) d os
  have k5 : ∀ d os, (grow (redrawn W d) os).cell? ⟨A + 1, 1, none⟩ = some (.int .i64 0) := fun d os => cell_regrown (by rw [HE.out.cell]; rfl) d os
  have c49 : ∀ d os, _ := fun d os => Calls.regrown_of (hma (grow (redrawn W d) os))
  refine wp_region_quiet_below (by kernel_rfl) (by kernel_rfl) ?_
  repeat (quiet_step (exact c49 _ _))
  clear k0 k1 k2 k3 k4 k5 c49 hma
  refine wpQuiet_nil ?_
  intro _ hw'
  obtain ⟨⟨dq, osq⟩, hw''⟩ := hw'
  subst hw''
  dsimp only
  have HB5 := Lib.hid (HB4.out.trans ((below_regrown W dq osq).mono HB4.out.size))
  have HF5 := Lib.hid (HF.out.below (below_regrown W dq osq) HF.out.lt)
  have HE5 := Lib.hid (HE.out.below (below_regrown W dq osq) HE.out.lt)
  clear HF HE HB4
  generalize grow (redrawn W dq) osq = W5 at *
  by_cases h40 : (40 : Int) < (s.size : Int)
  · have h40' : decide ((40 : Int) < (s.size : Int)) = true := by simpa using h40
    clear h40
    go_wp2_with (first
      | (go_at_call 42; refine (haw _ HB5.out).mono ?_; rintro e w6 ⟨rfl, hb6⟩)
      | fail)
    go_ret
    exact ⟨by first | rfl | trivial, HB5.out.trans (hb6.mono HB5.out.size)⟩
  · have h40' : decide ((40 : Int) < (s.size : Int)) = false := by simpa using h40
    clear h40
    obtain ⟨d, hd⟩ : ∃ d, decS s.data.toList = d := ⟨_, rfl⟩
    have hdec := decode_fields s W5 hm (hg.next HB5.out) d hd
    go_upto_region 7 with fail
    have nAA : ¬ A = A + 1 := by omega
    have nAB : ¬ A + 1 = A := by omega
    go_upto_region 8 with (go_at_call 43; refine hdec.mono ?_; rintro e w6 ⟨rfl, hb6⟩; have HB6 := Lib.hid (HB5.out.trans (hb6.mono HB5.out.size)); have HF6 := Lib.hid (HF5.out.below hb6 HF5.out.lt); have HE6 := Lib.hid (HE5.out.below hb6 HE5.out.lt); clear hb6; have cF := HF6.out.cell; have fF := HF6.out.fr; have cE := HE6.out.cell; have fE := HE6.out.fr)
    obtain ⟨e1, e2, e3⟩ := dec_store2 HF6.out HE6.out HB6.out HA.out (by omega) (.int .i64 d.t) (.int .i64 d.k) (.int .i64 d.a) (.int .i64 d.b) (.int .i64 d.er) (.int .i64 d.at')
    clear cF fF cE fE hdec HF5 HE5 HF6 HE6 HB6
    have HF7 := Lib.hid e1
    have HE7 := Lib.hid e2
    have HB7 := Lib.hid e3
    clear e1 e2 e3
    generalize (((((w6.setCell ⟨A, 0, none⟩ (.int .i64 d.t)).setCell ⟨A, 1, none⟩ (.int .i64 d.k)).setCell ⟨A, 2, none⟩ (.int .i64 d.a)).setCell ⟨A, 3, none⟩ (.int .i64 d.b)).setCell ⟨A + 1, 0, none⟩ (.int .i64 d.er)).setCell ⟨A + 1, 1, none⟩ (.int .i64 d.at') = W7 at *
    have cF := HF7.out.cell
    have cE := HE7.out.cell
    by_cases her : d.er = 0
    · have her' : (d.er != 0) = false := by simpa using her
      obtain ⟨hf1, hf2⟩ := decS_form (L := s.data.toList) (by rw [hd]; exact her)
      rw [hd] at hf1 hf2
      have hu : bs (form d.t d.k d.a d.b) = s := by rw [← hf1, bs_of]
      have hen2 := encode_ok d.t d.k d.a d.b W7 hf2 (hg.next HB7.out)
      rw [hu] at hen2
      clear hf1 hf2 hu her hd
      go_wp2_with (first
        | (go_at_call 48; refine hen2.mono ?_; rintro e w8 ⟨rfl, hb8⟩; have HB8 := Lib.hid (HB7.out.trans (hb8.mono HB7.out.size)); clear hb8)
        | (go_at_call 42; refine (haw _ HB8.out).mono ?_; rintro e w9 ⟨rfl, hb9⟩)
        | fail)
      go_ret
      exact ⟨by first | rfl | trivial, HB8.out.trans (hb9.mono HB8.out.size)⟩
    · have her' : (d.er != 0) = true := by simpa using her
      obtain ⟨z1, z2, z3, z4⟩ := decS_zero s.data.toList (by rw [hd]; exact her)
      rw [hd] at z1 z2 z3 z4
      rw [z1, z2, z3, z4] at cF HF7
      clear her hd
      go_wp2_with (first
        | (go_at_call 42; refine (haw _ HB7.out).mono ?_; rintro e w9 ⟨rfl, hb9⟩)
        | fail)
      go_ret
      exact ⟨by first | rfl | trivial, HB7.out.trans (hb9.mono HB7.out.size)⟩
end Go.Proofs.YtaipifjmkbcjjaaDoor
