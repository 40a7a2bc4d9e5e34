/- Walks: a form read: no form. -/
import Derived.Test.YtaipifjmkbcjjaaDoorZg1
namespace Go.Proofs.YtaipifjmkbcjjaaDoor
open Go.RowKit Go.Sort

set_option maxHeartbeats 2000000 in
theorem decode_noform (s : ByteArray) (w : World) (hs : s.size ≤ 16) (ha : ∀ k (h : k < s.size), (s[k]'h).toNat ≤ 126) (hg : Glob w) (hok : (dR9 s.data.toList).2.2 = false) :
    Calls Tryd.prog 43 #[.string s] w fun e w' => e = .returned (decA s.data.toList).v ∧ Below w.heap.size w w' := by
  have HD : Hid (decA s.data.toList = ⟨0, 0, 0, 0, 3, (dR9 s.data.toList).2.1⟩) := by show _ = _; rw [decA, if_pos hok]
  have HA := Lib.hid ha
  clear ha
  have h16 : decide ((16 : Int) < s.size) = false := by simp; omega
  go_enter Tryd.func43, Tryd.ntmps43
  go_wp2_with fail
  have H2 : Hid (Bl w.heap.size #[.int .i64 0, .int .i64 0, .int .i64 0, .int .i64 0] 68 ((w.alloc (.cells #[.int .i64 0, .int .i64 0, .int .i64 0, .int .i64 0] 68)).alloc (.cells #[.int .i64 0, .int .i64 0] 70))) := (Bl.new _ _ _).alloc _
  have H3 : Hid (Bl (w.heap.size + 1) #[.int .i64 0, .int .i64 0] 70 ((w.alloc (.cells #[.int .i64 0, .int .i64 0, .int .i64 0, .int .i64 0] 68)).alloc (.cells #[.int .i64 0, .int .i64 0] 70))) := by
    have := Bl.new (w.alloc (.cells #[.int .i64 0, .int .i64 0, .int .i64 0, .int .i64 0] 68)) #[.int .i64 0, .int .i64 0] 70
    show Bl _ _ _ _
    simpa using this
  have HB : Hid (Below w.heap.size w ((w.alloc (.cells #[.int .i64 0, .int .i64 0, .int .i64 0, .int .i64 0] 68)).alloc (.cells #[.int .i64 0, .int .i64 0] 70))) := ((Below.refl _ _).alloc (Nat.le_refl _) _).alloc (by simp) _
  have HS : Hid (((w.alloc (.cells #[.int .i64 0, .int .i64 0, .int .i64 0, .int .i64 0] 68)).alloc (.cells #[.int .i64 0, .int .i64 0] 70)).heap.size = w.heap.size + 1 + 1) := by show _ = _; simp
  generalize (w.alloc (.cells #[.int .i64 0, .int .i64 0, .int .i64 0, .int .i64 0] 68)).alloc (.cells #[.int .i64 0, .int .i64 0] 70) = W at *
  have hW1 : w.heap.size ≤ w.heap.size := Nat.le_refl _
  generalize hB2 : w.heap.size = B2 at *
  have hlt23 : B2 < B2 + 1 := by omega
  generalize hB3 : B2 + 1 = B3 at *
  have hlt3N : B3 < B3 + 1 := by omega
  generalize hN : B3 + 1 = N at *
  have HB2 := Lib.hid hB2
  clear hB2 hB3 hN
  go_loopw [4, 5] (fun a b wr => ∃ k : Nat, k ≤ s.size ∧ wr = W.iter s k) (fun _ _ wr => s.size - wr.iterPos N)
  case atStart => exact ⟨0, by omega, rfl⟩
  case round =>
    obtain ⟨k, hk, rfl⟩ := hrel
    have HP : Hid (∀ k, (W.iter s k).iterPos N = k) := by intro k; rw [← HS.out]; exact World.iterPos_iter _ _ _
    by_cases hlt : k < s.size
    · have hc := HA.out k hlt
      have hn := fun ty => run_next_ascii (P := Tryd.prog) W s k ty hlt (by omega)
      rw [HS.out] at hn
      go_wp2_with fail
      refine ⟨⟨k + 1, by omega, rfl⟩, ?_⟩
      rw [HP.out, HP.out]; omega
    · have hn := run_next_end (P := Tryd.prog) W s k
      rw [HS.out] at hn
      go_wp2_with fail
      have HBW : Hid (Below w.heap.size w W) := by show Below _ _ _; rw [HB2.out]; exact HB.out
      have HV : Hid (DV B2 B3 (W.iter s k).heap.size s 0 true w ((W.iter s k).alloc (.cells #[.string s, .int .i64 0, .bool true] 104))) :=
        ⟨Bl.new _ _ _, (H2.out.alloc _).alloc _, (H3.out.alloc _).alloc _,
          (HBW.out.alloc HBW.out.size _).alloc (by have := HBW.out.size; show w.heap.size ≤ (W.alloc _).heap.size; simp; omega) _,
          by rw [HB2.out]; exact Nat.le_refl _, hlt23, by show B3 < (W.alloc _).heap.size; rw [World.size_alloc, HS.out]; omega⟩
      generalize hX : (W.iter s k).alloc (.cells #[.string s, .int .i64 0, .bool true] 104) = X at *
      generalize hbr : (W.iter s k).heap.size = br at *
      clear hX hbr hn HP HBW H2 H3 HB HS
      have b1 := dR1_b s.data.toList
      have b2 := dR2_b s.data.toList
      refine (rune_dv HV.out hs _ (by decide) (by decide) (dR0 s.data.toList) rfl).mono ?_
      rintro e w1 ⟨rfl, hV1, -⟩
      clear HV
      go_wp2_with fail
      refine (rune_dv hV1 hs _ (by decide) (by decide) (dR1 s.data.toList) rfl).mono ?_
      rintro e w2 ⟨rfl, hV2, -⟩
      clear hV1
      go_wp2_with fail
      have hV2' := hV2.alloc (.cells #[.int .i64 (1 + (dR1 s.data.toList).1), .int .i64 0, .int .i64 0, .int .i64 0] 68)
      have hF := Bl.new w2 #[.int .i64 (1 + (dR1 s.data.toList).1), .int .i64 0, .int .i64 0, .int .i64 0] 68
      have hlf := hV2.rd.lt
      clear hV2
      generalize w2.alloc (.cells #[.int .i64 (1 + (dR1 s.data.toList).1), .int .i64 0, .int .i64 0, .int .i64 0] 68) = X2 at *
      generalize w2.heap.size = bf at *
      refine (rune_dv hV2' hs _ (by decide) (by decide) (dR2 s.data.toList) rfl).mono ?_
      rintro e w3 ⟨rfl, hV3, hg3⟩
      have hF3 := hF.grown hg3 (by intro e; cases e; omega)
      have c1 := hF3.cell 1
      have f1 := hF3.fr 1
      clear hV2' hF hg3
      go_wp2_with fail
      have hV3' := hV3.set bf 1 (.int .i64 (1 + (dR2 s.data.toList).1)) hlf
      have hF3' : Bl bf #[.int .i64 (1 + (dR1 s.data.toList).1), .int .i64 (1 + (dR2 s.data.toList).1), .int .i64 0, .int .i64 0] 68 (w3.setCell ⟨bf, 1, none⟩ (.int .i64 (1 + (dR2 s.data.toList).1))) := hF3.set 1 _
      clear hV3 hF3 c1 f1
      generalize w3.setCell ⟨bf, 1, none⟩ (.int .i64 (1 + (dR2 s.data.toList).1)) = X3 at *
      refine (number_dv hV3' hs (dR3 s.data.toList) rfl).mono ?_
      rintro e w4 ⟨rfl, hV4, hg4⟩
      have hF4 := hF3'.grown hg4 (by intro e; cases e; omega)
      have c2 := hF4.cell 2
      have f2 := hF4.fr 2
      clear hV3' hF3' hg4
      go_wp2_with fail
      have hV4' := hV4.set bf 2 (.int .i64 (dR3 s.data.toList).1) hlf
      have hF4' : Bl bf #[.int .i64 (1 + (dR1 s.data.toList).1), .int .i64 (1 + (dR2 s.data.toList).1), .int .i64 (dR3 s.data.toList).1, .int .i64 0] 68 (w4.setCell ⟨bf, 2, none⟩ (.int .i64 (dR3 s.data.toList).1)) := hF4.set 2 _
      clear hV4 hF4 c2 f2
      generalize w4.setCell ⟨bf, 2, none⟩ (.int .i64 (dR3 s.data.toList).1) = X4 at *
      refine (rune_dv hV4' hs _ (by decide) (by decide) (dR4 s.data.toList) rfl).mono ?_
      rintro e w5 ⟨rfl, hV5, hg5⟩
      have hF5 := hF4'.grown hg5 (by intro e; cases e; omega)
      clear hV4' hF4' hg5
      go_wp2_with fail
      refine (number_dv hV5 hs (dR5 s.data.toList) rfl).mono ?_
      rintro e w6 ⟨rfl, hV6, hg6⟩
      have hF6 := hF5.grown hg6 (by intro e; cases e; omega)
      have c3 := hF6.cell 3
      have f3 := hF6.fr 3
      clear hV5 hF5 hg6
      go_wp2_with fail
      have hV6' := hV6.set bf 3 (.int .i64 (dR5 s.data.toList).1) hlf
      have hF6' : Bl bf #[.int .i64 (1 + (dR1 s.data.toList).1), .int .i64 (1 + (dR2 s.data.toList).1), .int .i64 (dR3 s.data.toList).1, .int .i64 (dR5 s.data.toList).1] 68 (w6.setCell ⟨bf, 3, none⟩ (.int .i64 (dR5 s.data.toList).1)) := hF6.set 3 _
      clear hV6 hF6 c3 f3
      generalize w6.setCell ⟨bf, 3, none⟩ (.int .i64 (dR5 s.data.toList).1) = X6 at *
      refine (rune_dv hV6' hs _ (by decide) (by decide) (dR6 s.data.toList) rfl).mono ?_
      rintro e w7 ⟨rfl, hV7, hg7⟩
      have hF7 := hF6'.grown hg7 (by intro e; cases e; omega)
      have cp := hV7.rd.c1
      clear hV6' hF6' hg7
      go_wp2_with fail
      refine (rune_dv hV7 hs _ (by decide) (by decide) (dR7 s.data.toList) rfl).mono ?_
      rintro e w8 ⟨rfl, hV8, hg8⟩
      have hF8 := hF7.grown hg8 (by intro e; cases e; omega)
      clear hV7 hF7 hg8 cp
      go_wp2_with fail
      refine (rune_dv hV8 hs _ (by decide) (by decide) (dR8 s.data.toList) rfl).mono ?_
      rintro e w9 ⟨rfl, hV9, hg9⟩
      have hF9 := hF8.grown hg9 (by intro e; cases e; omega)
      clear hV8 hF8 hg9
      go_wp2_with fail
      refine (rune_dv hV9 hs _ (by decide) (by decide) (dR9 s.data.toList) rfl).mono ?_
      rintro e w10 ⟨rfl, hV10, hg10⟩
      have hF10 := hF9.grown hg10 (by intro e; cases e; omega)
      clear hV9 hF9 hg10
      have cp := hV10.rd.c1
      have cok := hV10.rd.c2
      go_wp2_with fail
      have z0 := hV10.r2.cell 0
      have z1 := hV10.r2.cell 1
      have z2 := hV10.r2.cell 2
      have z3 := hV10.r2.cell 3
      have y0 := hV10.r3.cell 0
      have y1 := hV10.r3.cell 1
      have g0 := hV10.r2.fr
      have g1 := hV10.r3.fr
      have m3 := hV10.n3
      have n23 : ¬ B2 = B3 := by omega
      have n32 : ¬ B3 = B2 := by omega
      have n2r : ¬ B2 = br := by omega
      have n3r : ¬ B3 = br := by omega
      have nr2 : ¬ br = B2 := by omega
      have nr3 : ¬ br = B3 := by omega
      go_region
      go_wp2
      obtain ⟨e1, e2, e3⟩ := dec_store hV10 (.int .i64 0) (.int .i64 0) (.int .i64 0) (.int .i64 0) (.int .i64 3) (.int .i64 (dR9 s.data.toList).2.1)
      refine dec_ret rfl rfl rfl e1.drew e2.drew ⟨?_, e3.drew⟩
      rw [HD.out]; rfl


end Go.Proofs.YtaipifjmkbcjjaaDoor
