/- Walks: the reference's Decode. -/
import Derived.Test.YtaipifjmkbcjjaaDoorRd
namespace Go.Proofs.YtaipifjmkbcjjaaDoor
open Go.RowKit Go.Sort

theorem results_odec {tm : Array Value} {W : World} {B2 B3 : Nat} {t k a b er at' : Value} (h2 : tm.getD 2 undef = .pointer (some ⟨B2, 0, none⟩)) (h3 : tm.getD 3 undef = .pointer (some ⟨B3, 0, none⟩))
    (b2 : Bl B2 #[t, k, a, b] 68 W) (b3 : Bl B3 #[er, at'] 70 W) : (results Tryd.f44 tm).run Tryd.prog W = .ok (.tuple #[.agg #[t, k, a, b], .agg #[er, at']]) W := by
  rw [Array.getD_eq_getD_getElem?] at h2 h3
  have z0 := b2.cell 0
  have z1 := b2.cell 1
  have z2 := b2.cell 2
  have z3 := b2.cell 3
  have y0 := b3.cell 0
  have y1 := b3.cell 1
  simp only [List.getElem?_toArray, List.getElem?_cons_zero, List.getElem?_cons_succ] at z0 z1 z2 z3 y0 y1
  simp [results, Tryd.results44, go_sem, h2, h3, z0, z1, z2, z3, y0, y1]
theorem odec_ret {R : Ending → World → Prop} {ac : Act} {W : World} {B2 B3 : Nat} {t k a b er at' : Value} (h2 : ac.tmps.getD 2 undef = .pointer (some ⟨B2, 0, none⟩)) (h3 : ac.tmps.getD 3 undef = .pointer (some ⟨B3, 0, none⟩)) (hd : ac.defers = [])
    (b2 : Bl B2 #[t, k, a, b] 68 W) (b3 : Bl B3 #[er, at'] 70 W) (hR : R (.returned (.tuple #[.agg #[t, k, a, b], .agg #[er, at']])) W) : bodyPost Tryd.prog Tryd.f44 R .ret ac W :=
  bodyPost_ret (results_odec h2 h3 b2 b3) hd hR

set_option maxHeartbeats 4000000 in
set_option maxRecDepth 100000 in
theorem odecode_short (s : ByteArray) (w : World) (hs : s.size ≤ 16) :
    Calls Tryd.prog 44 #[.string s] w fun e w' => e = .returned (decA s.data.toList).v ∧ Below w.heap.size w w' := by
  have h16 : decide ((16 : Int) < s.size) = false := by simp; omega
  go_enter Tryd.func44, Tryd.ntmps44
  go_wp2_with fail
  have HV : Hid (OV w.heap.size (w.heap.size + 1) (w.heap.size + 1 + 1) s 0 true w (((w.alloc (.cells #[.int .i64 0, .int .i64 0, .int .i64 0, .int .i64 0] 68)).alloc (.cells #[.int .i64 0, .int .i64 0] 70)).alloc (.cells #[.string s, .int .i64 0, .bool false] 110))) := by
    have h3 := Bl.new ((w.alloc (.cells #[.int .i64 0, .int .i64 0, .int .i64 0, .int .i64 0] 68)).alloc (.cells #[.int .i64 0, .int .i64 0] 70)) #[.string s, .int .i64 0, .bool false] 110
    have h2 := Bl.new (w.alloc (.cells #[.int .i64 0, .int .i64 0, .int .i64 0, .int .i64 0] 68)) #[.int .i64 0, .int .i64 0] 70
    have h1 := Bl.new w #[.int .i64 0, .int .i64 0, .int .i64 0, .int .i64 0] 68
    simp only [World.size_alloc] at h2 h3
    exact ⟨h3, (h1.alloc _).alloc _, h2.alloc _, (((Below.refl _ _).alloc (Nat.le_refl _) _).alloc (by simp) _).alloc (by simp; omega) _, Nat.le_refl _, by omega, by omega⟩
  generalize ((w.alloc (.cells #[.int .i64 0, .int .i64 0, .int .i64 0, .int .i64 0] 68)).alloc (.cells #[.int .i64 0, .int .i64 0] 70)).alloc (.cells #[.string s, .int .i64 0, .bool false] 110) = X at *
  have hlt23 : w.heap.size < w.heap.size + 1 := by omega
  generalize hB2 : w.heap.size = B2 at *
  have HB2 := Lib.hid hB2
  clear hB2
  generalize hbr : B2 + 1 + 1 = br at *
  generalize hB3 : B2 + 1 = B3 at *
  clear hbr hB3
  have b1 := dR1_b s.data.toList
  have b2 := dR2_b s.data.toList
  have b7 := rd_bound s.data.toList hexL (dR6 s.data.toList).2.1 (dR6 s.data.toList).2.2 16 rfl
  have b8 := rd_bound s.data.toList hexL (dR7 s.data.toList).2.1 (dR7 s.data.toList).2.2 16 rfl
  change 0 ≤ (dR7 s.data.toList).1 ∧ (dR7 s.data.toList).1 ≤ (16 : Nat) at b7
  change 0 ≤ (dR8 s.data.toList).1 ∧ (dR8 s.data.toList).1 ≤ (16 : Nat) at b8
  refine (ro_ov HV.out hs _ (by decide) (dR0 s.data.toList) rfl).mono ?_
  rintro e w1 ⟨rfl, hV1, -⟩
  clear HV
  go_wp2_with fail
  refine (ro_ov hV1 hs _ (by decide) (dR1 s.data.toList) rfl).mono ?_
  rintro e w2 ⟨rfl, hV2, -⟩
  clear hV1
  go_wp2_with fail
  have hV2' := hV2.alloc (.cells #[.int .i64 (1 + (dR1 s.data.toList).1), .int .i64 0, .int .i64 0, .int .i64 0] 68)
  have hF := Bl.new w2 #[.int .i64 (1 + (dR1 s.data.toList).1), .int .i64 0, .int .i64 0, .int .i64 0] 68
  have hlf := hV2.rd.lt
  clear hV2
  generalize w2.alloc (.cells #[.int .i64 (1 + (dR1 s.data.toList).1), .int .i64 0, .int .i64 0, .int .i64 0] 68) = X2 at *
  generalize w2.heap.size = bf at *
  refine (ro_ov hV2' hs _ (by decide) (dR2 s.data.toList) rfl).mono ?_
  rintro e w3 ⟨rfl, hV3, hg3⟩
  have hF3 := hF.grown hg3 (by intro e; cases e; omega)
  have c1 := hF3.cell 1
  have f1 := hF3.fr 1
  clear hV2' hF hg3
  go_wp2_with fail
  have hV3' := hV3.set bf 1 (.int .i64 (1 + (dR2 s.data.toList).1)) hlf
  have hF3' : Bl bf #[.int .i64 (1 + (dR1 s.data.toList).1), .int .i64 (1 + (dR2 s.data.toList).1), .int .i64 0, .int .i64 0] 68 (w3.setCell ⟨bf, 1, none⟩ (.int .i64 (1 + (dR2 s.data.toList).1))) := hF3.set 1 _
  clear hV3 hF3 c1 f1
  generalize w3.setCell ⟨bf, 1, none⟩ (.int .i64 (1 + (dR2 s.data.toList).1)) = X3 at *
  refine (ronum_ov hV3' hs (dR3 s.data.toList) rfl).mono ?_
  rintro e w4 ⟨rfl, hV4, hg4⟩
  have hF4 := hF3'.grown hg4 (by intro e; cases e; omega)
  have c2 := hF4.cell 2
  have f2 := hF4.fr 2
  clear hV3' hF3' hg4
  go_wp2_with fail
  have hV4' := hV4.set bf 2 (.int .i64 (dR3 s.data.toList).1) hlf
  have hF4' : Bl bf #[.int .i64 (1 + (dR1 s.data.toList).1), .int .i64 (1 + (dR2 s.data.toList).1), .int .i64 (dR3 s.data.toList).1, .int .i64 0] 68 (w4.setCell ⟨bf, 2, none⟩ (.int .i64 (dR3 s.data.toList).1)) := hF4.set 2 _
  clear hV4 hF4 c2 f2
  generalize w4.setCell ⟨bf, 2, none⟩ (.int .i64 (dR3 s.data.toList).1) = X4 at *
  refine (ro_ov hV4' hs _ (by decide) (dR4 s.data.toList) rfl).mono ?_
  rintro e w5 ⟨rfl, hV5, hg5⟩
  have hF5 := hF4'.grown hg5 (by intro e; cases e; omega)
  clear hV4' hF4' hg5
  go_wp2_with fail
  refine (ronum_ov hV5 hs (dR5 s.data.toList) rfl).mono ?_
  rintro e w6 ⟨rfl, hV6, hg6⟩
  have hF6 := hF5.grown hg6 (by intro e; cases e; omega)
  have c3 := hF6.cell 3
  have f3 := hF6.fr 3
  clear hV5 hF5 hg6
  go_wp2_with fail
  have hV6' := hV6.set bf 3 (.int .i64 (dR5 s.data.toList).1) hlf
  have hF6' : Bl bf #[.int .i64 (1 + (dR1 s.data.toList).1), .int .i64 (1 + (dR2 s.data.toList).1), .int .i64 (dR3 s.data.toList).1, .int .i64 (dR5 s.data.toList).1] 68 (w6.setCell ⟨bf, 3, none⟩ (.int .i64 (dR5 s.data.toList).1)) := hF6.set 3 _
  clear hV6 hF6 c3 f3
  generalize w6.setCell ⟨bf, 3, none⟩ (.int .i64 (dR5 s.data.toList).1) = X6 at *
  refine (ro_ov hV6' hs _ (by decide) (dR6 s.data.toList) rfl).mono ?_
  rintro e w7 ⟨rfl, hV7, hg7⟩
  have hF7 := hF6'.grown hg7 (by intro e; cases e; omega)
  have cp := hV7.rd.c1
  clear hV6' hF6' hg7
  go_wp2_with fail
  refine (ro_ov hV7 hs _ (by decide) (dR7 s.data.toList) rfl).mono ?_
  rintro e w8 ⟨rfl, hV8, hg8⟩
  have hF8 := hF7.grown hg8 (by intro e; cases e; omega)
  clear hV7 hF7 hg8 cp
  go_wp2_with fail
  refine (ro_ov hV8 hs _ (by decide) (dR8 s.data.toList) rfl).mono ?_
  rintro e w9 ⟨rfl, hV9, hg9⟩
  have hF9 := hF8.grown hg9 (by intro e; cases e; omega)
  clear hV8 hF8 hg9
  go_wp2_with fail
  refine (ro_ov hV9 hs _ (by decide) (dR9 s.data.toList) rfl).mono ?_
  rintro e w10 ⟨rfl, hV10, hg10⟩
  have hF10 := hF9.grown hg10 (by intro e; cases e; omega)
  clear hV9 hF9 hg10
  have cp := hV10.rd.c1
  have cok := hV10.rd.c2
  have g0 := hV10.r2.fr
  have g1 := hV10.r3.fr
  have q0 := hV10.r2.cell
  have q1 := hV10.r3.cell
  have m3 := hV10.n3
  have n23 : ¬ B2 = B3 := by omega
  have n32 : ¬ B3 = B2 := by omega
  have n2r : ¬ B2 = br := by omega
  have n3r : ¬ B3 = br := by omega
  have nr2 : ¬ br = B2 := by omega
  have nr3 : ¬ br = B3 := by omega
  have hL : s.data.toList.length = s.size := by simp
  have h0 : Hid (w.heap.size ≤ B2) := hV10.n1
  cases h9 : (dR9 s.data.toList).2.2 with
  | false =>
    have HD : Hid (decA s.data.toList = ⟨0, 0, 0, 0, 3, (dR9 s.data.toList).2.1⟩) := by show _ = _; rw [decA, if_pos h9]
    rw [h9] at cok
    simp only [Bool.not_false] at cok
    clear h9
    go_wp2_with fail
    go_region
    go_wp2
    obtain ⟨e1, e2, e3⟩ := dec_store2 hV10.r2 hV10.r3 hV10.bel h0.out hlt23 (.int .i64 0) (.int .i64 0) (.int .i64 0) (.int .i64 0) (.int .i64 3) (.int .i64 (dR9 s.data.toList).2.1)
    refine odec_ret rfl rfl rfl e1.drew e2.drew ⟨?_, e3.drew⟩
    rw [HD.out]; rfl
  | true =>
    obtain ⟨g3, g4, g5⟩ := dR9_ok h9
    have hsn := sum_num h9 (crc ((s.data.toList.drop 1).take ((dR6 s.data.toList).2.1 - 1)))
    rw [h9] at cok
    simp only [Bool.not_true] at cok
    have x1 : (1 : Int) ≤ (dR6 s.data.toList).2.1 := by omega
    have x2 : ((dR6 s.data.toList).2.1 : Int) ≤ s.size := by omega
    have hsm : (s.extract 1 (dR6 s.data.toList).2.1).size ≤ maxLen := by
      rw [ByteArray.size, ← Array.length_toList, extract_list]; simp; unfold maxLen; omega
    have hcs : ∀ W, Calls Tryd.prog 75 #[.string (s.extract 1 (dR6 s.data.toList).2.1)] W fun e w' => e = .returned (.int .u8 (bn (crc ((s.data.toList.drop 1).take ((dR6 s.data.toList).2.1 - 1))))) ∧ W = w' := fun W => by
      have := refSum_any (s.extract 1 (dR6 s.data.toList).2.1) W hsm
      rw [extract_list] at this; exact this
    have hcb := bn_lt (crc ((s.data.toList.drop 1).take ((dR6 s.data.toList).2.1 - 1)))
    have hcn := bn_nonneg (crc ((s.data.toList.drop 1).take ((dR6 s.data.toList).2.1 - 1)))
    generalize hcc : crc ((s.data.toList.drop 1).take ((dR6 s.data.toList).2.1 - 1)) = c at *
    have HDs : Hid (16 * (dR7 s.data.toList).1 + (dR8 s.data.toList).1 ≠ bn c → decA s.data.toList = ⟨0, 0, 0, 0, 10, (dR6 s.data.toList).2.1⟩) := fun hx => decA_sum h9 (by rw [hcc]; exact fun e => hx (hsn.1 e))
    have HDl : Hid (16 * (dR7 s.data.toList).1 + (dR8 s.data.toList).1 = bn c → (dR9 s.data.toList).2.1 < s.size → decA s.data.toList = ⟨0, 0, 0, 0, 3, (dR9 s.data.toList).2.1⟩) := fun hx hl => decA_long h9 (by rw [hcc]; simp only [ne_eq, Decidable.not_not]; exact hsn.2 hx) (by omega)
    have HDg : Hid (16 * (dR7 s.data.toList).1 + (dR8 s.data.toList).1 = bn c → ¬ (dR9 s.data.toList).2.1 < s.size → decA s.data.toList = ⟨1 + (dR1 s.data.toList).1, 1 + (dR2 s.data.toList).1, (dR3 s.data.toList).1, (dR5 s.data.toList).1, 0, 0⟩) := fun hx hl => decA_good h9 (by rw [hcc]; simp only [ne_eq, Decidable.not_not]; exact hsn.2 hx) (by omega)
    clear hsn hcc h9 hL
    have HO2 := Lib.hid hV10.r2
    have HO3 := Lib.hid hV10.r3
    have HOb := Lib.hid hV10.bel
    have HFf := Lib.hid hF10
    have qf := hF10.cell
    clear hV10 hF10 g4
    generalize (dR9 s.data.toList).2.1 = P9 at *
    generalize (dR9 s.data.toList).1 = D9 at *
    generalize (dR6 s.data.toList).2.1 = P6 at *
    generalize (dR7 s.data.toList).1 = D7 at *
    generalize (dR8 s.data.toList).1 = D8 at *
    generalize (dR1 s.data.toList).1 = D1 at *
    generalize (dR2 s.data.toList).1 = D2 at *
    generalize (dR3 s.data.toList).1 = D3 at *
    generalize (dR5 s.data.toList).1 = D5 at *
    generalize bn c = cn at *
    by_cases hx : 16 * D7 + D8 = cn
    · have hx' : (16 * D7 + D8 != cn) = false := by simpa using hx
      by_cases hl : P9 < s.size
      · have HD := Lib.hid (HDl.out hx hl)
        have hl2 : decide (P9 < s.size) = true := by simpa using hl
        clear hx hl
        go_wp2_with (go_at_call 75; refine (hcs _).mono ?_; rintro e w11 ⟨rfl, rfl⟩)
        go_region
        go_wp2
        obtain ⟨e1, e2, e3⟩ := dec_store2 HO2.out HO3.out HOb.out h0.out hlt23 (.int .i64 0) (.int .i64 0) (.int .i64 0) (.int .i64 0) (.int .i64 3) (.int .i64 P9)
        refine odec_ret rfl rfl rfl e1.drew e2.drew ⟨?_, e3.drew⟩
        rw [HD.out]; rfl
      · have HD := Lib.hid (HDg.out hx hl)
        have hl2 : decide (P9 < s.size) = false := by simpa using hl
        clear hx hl
        go_wp2_with (go_at_call 75; refine (hcs _).mono ?_; rintro e w11 ⟨rfl, rfl⟩)
        obtain ⟨e1, e2, e3⟩ := dec_store2 HO2.out HO3.out HOb.out h0.out hlt23 (.int .i64 (1 + D1)) (.int .i64 (1 + D2)) (.int .i64 D3) (.int .i64 D5) (.int .i64 0) (.int .i64 0)
        refine odec_ret rfl rfl rfl e1 e2 ⟨?_, e3⟩
        rw [HD.out]; rfl
    · have hx' : (16 * D7 + D8 != cn) = true := by simpa using hx
      have HD := Lib.hid (HDs.out hx)
      clear hx
      go_wp2_with (go_at_call 75; refine (hcs _).mono ?_; rintro e w11 ⟨rfl, rfl⟩)
      obtain ⟨e1, e2, e3⟩ := dec_store2 HO2.out HO3.out HOb.out h0.out hlt23 (.int .i64 0) (.int .i64 0) (.int .i64 0) (.int .i64 0) (.int .i64 10) (.int .i64 P6)
      refine odec_ret rfl rfl rfl e1 e2 ⟨?_, e3⟩
      rw [HD.out]; rfl
/-- What the reference's 'Decode' answers: what the program's answers. -/
theorem odecode_any (s : ByteArray) (w : World) : Calls Tryd.prog 44 #[.string s] w fun e w' => e = .returned (decS s.data.toList).v ∧ Below w.heap.size w w' := by
  have hL : s.data.toList.length = s.size := by simp
  by_cases h : 16 < s.size
  · have e : decS s.data.toList = ⟨0, 0, 0, 0, 4, 16⟩ := by rw [decS, if_pos (by omega)]
    rw [e]
    have h16 : decide ((16 : Int) < s.size) = true := by simp; omega
    clear h hL e
    go_enter Tryd.func44, Tryd.ntmps44
    go_wp2_with fail
    refine odec_ret rfl rfl rfl (t := .int .i64 0) (k := .int .i64 0) (a := .int .i64 0) (b := .int .i64 0) (er := .int .i64 4) (at' := .int .i64 16) ?_ ?_ ⟨rfl, ?_⟩
    · exact (Bl.new w _ 68).alloc _
    · have := Bl.new (w.alloc (.cells #[.int .i64 0, .int .i64 0, .int .i64 0, .int .i64 0] 68)) #[.int .i64 4, .int .i64 16] 70
      rw [World.size_alloc] at this; exact this
    · exact ((Below.refl _ _).alloc (Nat.le_refl _) _).alloc (by simp) _
  · rw [decS_decA _ (by omega)]
    exact odecode_short s w (by omega)

end Go.Proofs.YtaipifjmkbcjjaaDoor
