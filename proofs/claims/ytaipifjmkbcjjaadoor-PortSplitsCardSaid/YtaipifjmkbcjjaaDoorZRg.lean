/- Walks: the reference of ports: Fits, Data, Ports. -/
import Derived.Test.YtaipifjmkbcjjaaDoorZg2
import Derived.Test.YtaipifjmkbcjjaaDoorZg4
namespace Go.Proofs.YtaipifjmkbcjjaaDoor
open Go.RowKit Go.Sort

/-- What 'Fits' answers. -/
def fitsS (f c k a b : Int) : Bool × Int := if vErr f c = 0 then (fitsB f c k a b, 0) else (false, 2)
theorem vErr_two {f c : Int} (h : vErr f c ≠ 0) : vErr f c = 2 := by unfold vErr at h ⊢; split at h <;> simp_all

theorem fitsE_any (f c k a b : Int) (x : Nat → Value) (w : World) :
    Calls Tryd.prog 27 #[.agg (cfgA f c x), .agg #[.int .i64 k, .int .i64 a, .int .i64 b]] w fun e w' => e = .returned (.tuple #[.bool (fitsS f c k a b).1, .int .i64 (fitsS f c k a b).2]) ∧ Below w.heap.size w w' := by
  unfold fitsS
  by_cases h : vErr f c = 0
  · rw [if_pos h]; exact fitsE_ok f c k a b x w h
  · rw [if_neg h]
    have h2 := fitsE_bad f c k a b x w h
    rw [vErr_two h] at h2; exact h2

set_option maxRecDepth 100000 in
set_option maxHeartbeats 400000 in
theorem ofitsE_any (f c k a b : Int) (x : Nat → Value) (w : World) :
    Calls Tryd.prog 31 #[.agg (cfgA f c x), .agg #[.int .i64 k, .int .i64 a, .int .i64 b]] w fun e w' => e = .returned (.tuple #[.bool (fitsS f c k a b).1, .int .i64 (fitsS f c k a b).2]) ∧ Below w.heap.size w w' := by
  have hva := fun W => ovalid_any f c x W
  unfold fitsS
  have HB := Lib.hid ((Bl.new w (cfgA f c x) 40).alloc (.cells #[.int .i64 k, .int .i64 a, .int .i64 b] 43))
  by_cases h : vErr f c = 0
  · rw [if_pos h]
    have hd : decide (vErr f c = 0) = true := by simpa using h
    rw [hd] at hva
    clear h hd
    go_enter Tryd.func31, Tryd.ntmps31
    go_wp2_with (refine wpList_load_bl rfl 40 (.tmp 2) rfl _ rfl 40 _ _ HB.out Tryd.underlying40 rfl info40 ?_)
    refine (hva _).mono ?_
    rintro e w1 ⟨rfl, hb⟩
    have hB1 := Lib.hid (HB.out.below hb HB.out.lt)
    have hB2 : Bl (w.heap.size + 1) #[.int .i64 k, .int .i64 a, .int .i64 b] 43 w1 := by
      have := (Bl.new (w.alloc (.cells (cfgA f c x) 40)) #[.int .i64 k, .int .i64 a, .int .i64 b] 43).below hb (by simp only [World.size_alloc]; omega)
      rw [World.size_alloc] at this
      exact this
    have HW := Lib.hid ((((Below.refl _ _).alloc (Nat.le_refl _) (.cells (cfgA f c x) 40)).alloc (by simp) (.cells #[.int .i64 k, .int .i64 a, .int .i64 b] 43)).trans (hb.mono (by simp only [World.size_alloc]; omega)))
    clear hb HB
    have c2 := hB2.cell
    go_wp2_with (refine wpList_load_bl rfl 40 (.tmp 2) rfl _ rfl 40 _ _ hB1.out Tryd.underlying40 rfl info40 ?_)
    refine (ofits_any _ _ _ _ _ _ _).mono ?_
    rintro e w2 ⟨rfl, hb2⟩
    clear c2
    go_wp2
    go_ret2
    exact ⟨rfl, HW.out.trans (hb2.mono HW.out.size)⟩
  · rw [if_neg h]
    have hd : decide (vErr f c = 0) = false := by simpa using h
    rw [hd] at hva
    clear h hd
    go_enter Tryd.func31, Tryd.ntmps31
    go_wp2_with (refine wpList_load_bl rfl 40 (.tmp 2) rfl _ rfl 40 _ _ HB.out Tryd.underlying40 rfl info40 ?_)
    refine (hva _).mono ?_
    rintro e w1 ⟨rfl, hb⟩
    have HW := Lib.hid ((((Below.refl _ _).alloc (Nat.le_refl _) (.cells (cfgA f c x) 40)).alloc (by simp) (.cells #[.int .i64 k, .int .i64 a, .int .i64 b] 43)).trans (hb.mono (by simp only [World.size_alloc]; omega)))
    clear hb HB
    go_wp2
    go_ret2
    exact ⟨rfl, HW.out⟩

set_option maxRecDepth 100000 in
set_option maxHeartbeats 1000000 in
theorem odata_any (f c p k a b : Int) (x : Nat → Value) (w : World) (r : List UInt8) (er : Int) (hr : dataS f c p k a b = (r, er)) :
    Calls Tryd.prog 34 #[.agg (cfgA f c x), .int .i64 p, .agg #[.int .i64 k, .int .i64 a, .int .i64 b]] w fun e w' => e = .returned (.tuple #[.string (bs r), .int .i64 er]) ∧ Below w.heap.size w w' := by
  have HJ := Lib.hid hr
  clear hr
  have hva := fun W => ovalid_any f c x W
  have hwr := fun W => wrong_any p W
  have HC := Lib.hid ((Bl.new w (cfgA f c x) 40).alloc (.cells #[.int .i64 k, .int .i64 a, .int .i64 b] 43))
  have HE : Hid (Bl (w.heap.size + 1) #[.int .i64 k, .int .i64 a, .int .i64 b] 43 ((w.alloc (.cells (cfgA f c x) 40)).alloc (.cells #[.int .i64 k, .int .i64 a, .int .i64 b] 43))) := by
    have := Bl.new (w.alloc (.cells (cfgA f c x) 40)) #[.int .i64 k, .int .i64 a, .int .i64 b] 43
    rw [World.size_alloc] at this
    exact this
  have HB : Hid (Below w.heap.size w ((w.alloc (.cells (cfgA f c x) 40)).alloc (.cells #[.int .i64 k, .int .i64 a, .int .i64 b] 43))) := (below_alloc _ _).alloc (by simp) _
  by_cases hv : vErr f c = 0
  · have hd : decide (vErr f c = 0) = true := by simpa using hv
    rw [hd] at hva
    by_cases hp : 0 ≤ p ∧ p < 24
    · have hd2 : (!decide (0 ≤ p ∧ p < 24)) = false := by simp; omega
      rw [hd2] at hwr
      have hp0 := hp.1
      have hp1 := hp.2
      cases hx : fitsB f c k a b with
      | true =>
        have HX := Lib.hid hx
        have HJ2 : Hid (encF (1 + p / 8) k a b = (r, er)) := by
          have := HJ.out
          rw [dataS, if_neg (by simpa using hv), if_neg (by simpa using hp), if_neg (by simp [hx])] at this
          exact this
        clear hv hx hd hd2 hp
        go_enter Tryd.func34, Tryd.ntmps34
        go_wp2_with (refine wpList_load_bl rfl 40 (.tmp 3) rfl _ rfl 40 _ _ HC.out Tryd.underlying40 rfl info40 ?_)
        refine (hva _).mono ?_
        rintro e w1 ⟨rfl, hb⟩
        have HC1 := Lib.hid (HC.out.below hb HC.out.lt)
        have HE1 := Lib.hid (HE.out.below hb HE.out.lt)
        have HB1 := Lib.hid (HB.out.trans (hb.mono HB.out.size))
        clear HC HE HB hb
        have hE := HE1.out.cell
        go_wp2_with fail
        refine (hwr _).mono ?_
        rintro e w2 ⟨rfl, rfl⟩
        go_wp2_with (refine wpList_load_bl rfl 40 (.tmp 3) rfl _ rfl 40 _ _ HC1.out Tryd.underlying40 rfl info40 ?_)
        refine (ofits_any _ _ _ _ _ _ _).mono ?_
        rintro e w2 ⟨rfl, hb⟩
        rw [HX.out]
        have HE2 := Lib.hid (HE1.out.below hb HE1.out.lt)
        have HB2 := Lib.hid (HB1.out.trans (hb.mono HB1.out.size))
        clear HC1 HE1 HB1 hb hE
        have hE := HE2.out.cell
        go_wp2_with fail
        refine (refEncode_any _ _ _ _ _).mono ?_
        rintro e w3 ⟨rfl, hb⟩
        go_wp2
        go_ret2
        refine ⟨?_, HB2.out.trans (hb.mono HB2.out.size)⟩
        rw [HJ2.out]; rfl
      | false =>
        have HX := Lib.hid hx
        have HJ2 : Hid (r = [] ∧ er = 11) := by
          have := HJ.out
          rw [dataS, if_neg (by simpa using hv), if_neg (by simpa using hp), if_pos hx] at this
          simp only [Prod.mk.injEq] at this
          exact ⟨this.1.symm, this.2.symm⟩
        clear hv hx hd hd2 hp
        go_enter Tryd.func34, Tryd.ntmps34
        go_wp2_with (refine wpList_load_bl rfl 40 (.tmp 3) rfl _ rfl 40 _ _ HC.out Tryd.underlying40 rfl info40 ?_)
        refine (hva _).mono ?_
        rintro e w1 ⟨rfl, hb⟩
        have HC1 := Lib.hid (HC.out.below hb HC.out.lt)
        have HE1 := Lib.hid (HE.out.below hb HE.out.lt)
        have HB1 := Lib.hid (HB.out.trans (hb.mono HB.out.size))
        clear HC HE HB hb
        have hE := HE1.out.cell
        go_wp2_with fail
        refine (hwr _).mono ?_
        rintro e w2 ⟨rfl, rfl⟩
        go_wp2_with (refine wpList_load_bl rfl 40 (.tmp 3) rfl _ rfl 40 _ _ HC1.out Tryd.underlying40 rfl info40 ?_)
        refine (ofits_any _ _ _ _ _ _ _).mono ?_
        rintro e w2 ⟨rfl, hb⟩
        rw [HX.out]
        go_wp2
        go_ret2
        refine ⟨?_, HB1.out.trans (hb.mono HB1.out.size)⟩
        rw [HJ2.out.1, HJ2.out.2]; rfl
    · have hd2 : (!decide (0 ≤ p ∧ p < 24)) = true := by simp; omega
      rw [hd2] at hwr
      have HJ2 : Hid (r = [] ∧ er = 2) := by
        have := HJ.out
        rw [dataS, if_neg (by simpa using hv), if_pos hp] at this
        simp only [Prod.mk.injEq] at this
        exact ⟨this.1.symm, this.2.symm⟩
      clear hv hd hd2 hp
      go_enter Tryd.func34, Tryd.ntmps34
      go_wp2_with (refine wpList_load_bl rfl 40 (.tmp 3) rfl _ rfl 40 _ _ HC.out Tryd.underlying40 rfl info40 ?_)
      refine (hva _).mono ?_
      rintro e w1 ⟨rfl, hb⟩
      have HB1 := Lib.hid (HB.out.trans (hb.mono HB.out.size))
      clear HC HE HB hb
      go_wp2_with fail
      refine (hwr _).mono ?_
      rintro e w2 ⟨rfl, rfl⟩
      go_wp2
      go_ret2
      refine ⟨?_, HB1.out⟩
      rw [HJ2.out.1, HJ2.out.2]; rfl
  · have hd : decide (vErr f c = 0) = false := by simpa using hv
    rw [hd] at hva
    have HJ2 : Hid (r = [] ∧ er = 2) := by
      have := HJ.out
      rw [dataS, if_pos hv, vErr_two hv] at this
      simp only [Prod.mk.injEq] at this
      exact ⟨this.1.symm, this.2.symm⟩
    clear hv hd
    go_enter Tryd.func34, Tryd.ntmps34
    go_wp2_with (refine wpList_load_bl rfl 40 (.tmp 3) rfl _ rfl 40 _ _ HC.out Tryd.underlying40 rfl info40 ?_)
    refine (hva _).mono ?_
    rintro e w1 ⟨rfl, hb⟩
    have HB1 := Lib.hid (HB.out.trans (hb.mono HB.out.size))
    clear HC HE HB hb
    go_wp2
    go_ret2
    refine ⟨?_, HB1.out⟩
    rw [HJ2.out.1, HJ2.out.2]; rfl

theorem dom8_at (d : Int) (k : Nat) (h : k < 8) : (dom8 d).getD k 0 = 8 * (d - 1) + (k : Int) := by
  unfold dom8; simp [List.getD_eq_getElem?_getD, h]

set_option maxRecDepth 100000 in
set_option maxHeartbeats 1000000 in
theorem oports_sees (d : Int) (w : World) : Calls Tryd.prog 29 #[.int .i64 d] w fun e w' => ∃ v, e = .returned (.tuple #[v, .int .i64 (portsS d).2]) ∧ SeesI w' v (portsS d).1 ∧ Below w.heap.size w w' := by
  obtain ⟨i0, hi, hz0, hz1, hz2⟩ := info_parts Tr.info3
  unfold portsS
  by_cases h : 1 ≤ d ∧ d ≤ 3
  · rw [if_pos h]
    obtain ⟨h1, h2⟩ := h
    have hl : (dom8 d).length = 8 := by simp [dom8]
    have w1 : IntKind.i64.wrap (d - 1) = d - 1 := IntWalk.i64_in _ (by omega)
    have w2 : IntKind.i64.wrap (8 * (d - 1)) = 8 * (d - 1) := IntWalk.i64_in _ (by omega)
    have w3 : IntKind.i64.wrap (8 * d) = 8 * d := IntWalk.i64_in _ (by omega)
    have t1 : decide (d < 1) = false := by simp; omega
    have t2 : decide (3 < d) = false := by simp; omega
    have HB0 := Lib.hid (Below.refl w.heap.size w)
    go_enter Tryd.func29, Tryd.ntmps29
    go_wp2
    go_loopw [4, 5] (fun v i wr => ∃ k : Nat, k ≤ 8 ∧ i = .int .i64 (8 * (d - 1) + (k : Int)) ∧ Hid (wr.ownsRow w.heap.size 3 1 v k (((dom8 d).take k).map (fun i => Value.int .i64 i))) ∧ Hid (Below w.heap.size w wr))
      (fun _ i _ => (8 * d - intOf i).toNat)
    case atStart => exact ⟨0, Nat.zero_le _, by simp, World.ownsRow_nil _ _ _ _, HB0.out⟩
    case round =>
      obtain ⟨k, hk, rfl, HO, HB⟩ := hrel
      clear HB0
      by_cases hlt : k < 8
      · have a1 : decide (8 * (d - 1) + (k : Int) < 8 * d) = true := by simp; omega
        have a2 : 8 * (d - 1) + (k : Int) < 8 * d := by omega
        have w4 : IntKind.i64.wrap (8 * (d - 1) + (k : Int) + 1) = 8 * (d - 1) + (k : Int) + 1 := IntWalk.i64_in _ (by omega)
        have HN : Hid ((((dom8 d).take (k + 1)).map (fun i => Value.int .i64 i)) = ((dom8 d).take k).map (fun i => Value.int .i64 i) ++ [.int .i64 (8 * (d - 1) + (k : Int))]) := by
          show _ = _
          have hg := dom8_at d k hlt
          rw [List.getD_eq_getElem?_getD, List.getElem?_eq_getElem (by omega)] at hg
          rw [List.take_add_one, List.getElem?_eq_getElem (by omega)]
          simp at hg
          simp [hg]
        go_wp2_with (first
          | (at_builtin; refine wpList_append_own _ rfl _ _ 26 rfl w.heap.size 3 i0 (.int .i64 0) 1 8 Tryd.underlying26 hi hz0 hz1 hz2 rfl (by decide) _ _ _ rfl (HO.out.alloc _) ⟨wr.heap.size, 0, none⟩ 1 1 [.int .i64 (8 * (d - 1) + (k : Int))] rfl rfl (cell_one_new _ _ _) (by simp [Value.oneCell']) (by unfold maxLen; omega) (by omega) (by simp only [World.size_alloc]; have := HB.out.size; omega) ?_; intro v' w6 hown' hgrow _; have HO6 := Lib.hid hown'; have HG6 := Lib.hid hgrow; clear hown' hgrow)
          | fail)
        go_roundw
        case rel =>
          refine ⟨k + 1, by omega, by push_cast; go_num, ?_, ?_⟩
          · show World.ownsRow _ _ _ _ _ _ _
            rw [HN.out]; exact HO6.out
          · exact (HB.out.alloc HB.out.size _).grown HG6.out (HB.out.alloc HB.out.size _).size (fun k e => (HO.out.lt k e).1)
        case measure => simp [intOf]; omega
      · obtain rfl : k = 8 := by omega
        have a1 : decide (8 * (d - 1) + ((8 : Nat) : Int) < 8 * d) = false := by simp; omega
        have a2 : ¬ 8 * (d - 1) + (8 : Int) < 8 * d := by omega
        go_wp2
        go_ret2
        have h8 := HO.out
        rw [List.take_of_length_le (by omega)] at h8
        exact ⟨_, rfl, ownI_sees (by rw [hl]; exact h8), HB.out⟩
  · rw [if_neg h]
    have t : decide (d < 1) = true ∨ (decide (d < 1) = false ∧ decide (3 < d) = true) := by
      by_cases h0 : d < 1
      · left; simpa using h0
      · right; simp; omega
    have HB0 := Lib.hid (Below.refl w.heap.size w)
    clear h
    rcases t with t1 | ⟨t1, t2⟩
    all_goals
      go_enter Tryd.func29, Tryd.ntmps29
      go_wp2
      go_ret2
      exact ⟨_, rfl, ⟨none, 0, rfl, fun h0 => by simp at h0⟩, HB0.out⟩
end Go.Proofs.YtaipifjmkbcjjaaDoor
