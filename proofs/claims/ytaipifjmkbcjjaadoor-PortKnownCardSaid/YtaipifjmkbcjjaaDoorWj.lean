/- Walks: PortJudges. -/
import Derived.Test.YtaipifjmkbcjjaaDoorRj
import Derived.Deep.CutRange
namespace Go.Proofs.YtaipifjmkbcjjaaDoor
open Go.RowKit Go.Sort

def domS (p : Int) : Int × Int := if 0 ≤ p ∧ p < 24 then (1 + p / 8, 0) else (0, 2)
theorem dom_any (p : Int) (w : World) : Calls Tryd.prog 19 #[.int .i64 p] w fun e w' => e = .returned (.tuple #[.int .i64 (domS p).1, .int .i64 (domS p).2]) ∧ w = w' := by
  unfold domS
  by_cases h : 0 ≤ p ∧ p < 24
  · rw [if_pos h]; exact domain_ok p w h.1 h.2
  · rw [if_neg h]; exact domain_bad p w h
theorem odom_any (p : Int) (w : World) : Calls Tryd.prog 28 #[.int .i64 p] w fun e w' => e = .returned (.tuple #[.int .i64 (domS p).1, .int .i64 (domS p).2]) ∧ w = w' := by
  unfold domS
  by_cases h : 0 ≤ p ∧ p < 24
  · rw [if_pos h]; exact odomain_ok p w h.1 h.2
  · rw [if_neg h]; exact odomain_bad p w h
theorem portsS_len (d : Int) : (portsS d).1.length ≤ maxLen := by
  unfold portsS; split
  · simp [dom8, maxLen]
  · simp [maxLen]

set_option maxRecDepth 100000 in
set_option maxHeartbeats 4000000 in
theorem PortJudges_any (f c : Int) (x : Nat → Value) (ga : Option Addr) (gn gc : Nat) (hx1 : x 1 = .slice ga gn gc) (p d : Int) (s : ByteArray) (k a b : Int) (w : World) (hg : Glob w) :
    Calls Tryd.prog 6 #[.agg (cfgA f c x), .int .i64 p, .int .i64 d, .string s, .agg #[.int .i64 k, .int .i64 a, .int .i64 b]] w fun e w' => e = .returned (.bool true) ∧ Below w.heap.size w w' := by
  have haw : ∀ W, Below w.heap.size w W → Calls Tryd.prog 22 #[] W _ := fun W hb => awake_any W (hg.next hb)
  have HC := Lib.hid ((Bl.new w (cfgA f c x) 40).alloc (.cells #[.int .i64 k, .int .i64 a, .int .i64 b] 43))
  have HE : Hid (Bl (w.heap.size + 1) #[.int .i64 k, .int .i64 a, .int .i64 b] 43 ((w.alloc (.cells (cfgA f c x) 40)).alloc (.cells #[.int .i64 k, .int .i64 a, .int .i64 b] 43))) := by
    have := Bl.new (w.alloc (.cells (cfgA f c x) 40)) #[.int .i64 k, .int .i64 a, .int .i64 b] 43
    rw [World.size_alloc] at this
    exact this
  have HB : Hid (Below w.heap.size w ((w.alloc (.cells (cfgA f c x) 40)).alloc (.cells #[.int .i64 k, .int .i64 a, .int .i64 b] 43))) := (below_alloc _ _).alloc (by simp) _
  by_cases h40 : (40 : Int) < (s.size : Int)
  · have h40' : decide ((40 : Int) < (s.size : Int)) = true := by simpa using h40
    clear h40
    go_enter Tryd.func6, Tryd.ntmps6
    go_wp2_with (first
      | (go_at_call 22; refine (haw _ HB.out).mono ?_; rintro e w6 ⟨rfl, hb1⟩; have HB6 := Lib.hid (HB.out.trans (hb1.mono HB.out.size)); clear hb1)
      | fail)
    go_ret
    exact ⟨by first | rfl | trivial, HB6.out⟩
  have h40' : decide ((40 : Int) < (s.size : Int)) = false := by simpa using h40
  have hG : ((w.alloc (.cells (cfgA f c x) 40)).alloc (.cells #[.int .i64 k, .int .i64 a, .int .i64 b] 43)).cell? ⟨w.heap.size, 1, none⟩ = some (.slice ga gn gc) := by
    rw [HC.out.cell, ← hx1]; rfl
  have hG2 : (cfgA f c x)[1]? = some (.slice ga gn gc) := by rw [← hx1]; rfl
  have hsm : s.size ≤ maxLen := by unfold maxLen; omega
  clear h40
  have HX1 := Lib.hid hx1
  clear hx1
  by_cases h70 : (70 : Int) < (gn : Int)
  · have h70' : decide ((70 : Int) < (gn : Int)) = true := by simpa using h70
    clear h70
    go_enter Tryd.func6, Tryd.ntmps6
    go_wp2_with (first
      | (go_at_call 22; refine (haw _ HB.out).mono ?_; rintro e w6 ⟨rfl, hb1⟩; have HB6 := Lib.hid (HB.out.trans (hb1.mono HB.out.size)); clear hb1)
      | fail)
    go_ret
    exact ⟨by first | rfl | trivial, HB6.out⟩
  have h70' : decide ((70 : Int) < (gn : Int)) = false := by simpa using h70
  clear h70
  have hdo := fun W => dom_any p W
  have hod := fun W => odom_any p W
  have hpo := fun W => ports_sees d W
  have hop := fun W => oports_sees d W
  have hpl := portsS_len d
  have hfi := fun W => fitsE_any f c k a b x W
  have hof := fun W => ofitsE_any f c k a b x W
  obtain ⟨⟨j, er⟩, hj⟩ : ∃ q, jdgE f c p s.data.toList = q := ⟨_, rfl⟩
  have hju : ∀ W, Below w.heap.size w W → Calls Tryd.prog 32 #[.agg (cfgA f c x), .int .i64 p, .string s] W _ := fun W hb => judgeE_any f c p x s W hsm (hg.next hb) j er hj
  have hoj := fun W => ojudgeE_any f c p x s W j er hj
  obtain ⟨⟨r, e2⟩, hr⟩ : ∃ q, dataS f c p k a b = q := ⟨_, rfl⟩
  have hda : ∀ W, Below w.heap.size w W → Calls Tryd.prog 23 #[.agg (cfgA f c x), .int .i64 p, .agg #[.int .i64 k, .int .i64 a, .int .i64 b]] W _ := fun W hb => data_any f c p k a b x W (hg.next hb) r e2 hr
  have hoda := fun W => odata_any f c p k a b x W r e2 hr
  clear hj hr hsm
  generalize (domS p).1 = D1 at *
  generalize (domS p).2 = D2 at *
  generalize (portsS d).1 = L1 at *
  generalize (portsS d).2 = L2 at *
  generalize (fitsS f c k a b).1 = F1 at *
  generalize (fitsS f c k a b).2 = F2 at *
  generalize bs r = R at *
  obtain ⟨j1, j2, j3, j4⟩ := j
  dsimp only at hju hoj
  have hE := HE.out.cell
  go_enter Tryd.func6, Tryd.ntmps6
  go_upto_region 3 with fail
  generalize (w.alloc (.cells (cfgA f c x) 40)).alloc (.cells #[.int .i64 k, .int .i64 a, .int .i64 b] 43) = W0 at *
  clear hG
  go_upto_region 7 with (first
    | (go_at_call 19; refine (hdo _).mono ?_; rintro e w1 ⟨rfl, rfl⟩)
    | (go_at_call 28; refine (hod _).mono ?_; rintro e w1 ⟨rfl, rfl⟩)
    | (go_at_call 20; refine (hpo _).mono ?_; rintro e w1 ⟨v1, rfl, hs1, hb1⟩; have S1 := Lib.hid hs1; clear hs1; replace HB := Lib.hid (HB.out.trans (hb1.mono HB.out.size)); replace HC := Lib.hid (HC.out.below hb1 HC.out.lt); replace HE := Lib.hid (HE.out.below hb1 HE.out.lt); clear hE; have hE := HE.out.cell; clear hb1)
    | (go_at_call 29; refine (hop _).mono ?_; rintro e w1 ⟨v2, rfl, hs1, hb1⟩; have S2 := Lib.hid hs1; clear hs1; replace HB := Lib.hid (HB.out.trans (hb1.mono HB.out.size)); replace HC := Lib.hid (HC.out.below hb1 HC.out.lt); replace HE := Lib.hid (HE.out.below hb1 HE.out.lt); clear hE; have hE := HE.out.cell; replace S1 := Lib.hid (S1.out.block hb1); clear hb1)
    | fail)
  clear hdo hod hpo hop
  go_upto_region 9 with (first
    | (go_at_call 30; refine (sameInts_sees S1.out S2.out hpl).mono ?_; rintro e w1 ⟨rfl, hb1⟩; replace HB := Lib.hid (HB.out.trans (hb1.mono HB.out.size)); replace HC := Lib.hid (HC.out.below hb1 HC.out.lt); replace HE := Lib.hid (HE.out.below hb1 HE.out.lt); clear hE; have hE := HE.out.cell; clear hb1)
    | fail)
  clear hpl S1 S2
  go_upto_region 13 with (first
    | (refine wpList_load_bl rfl 40 (.tmp 5) rfl _ rfl 40 _ _ HC.out Tryd.underlying40 rfl info40 ?_)
    | (go_at_call 27; refine (hfi _).mono ?_; rintro e w1 ⟨rfl, hb1⟩; replace HB := Lib.hid (HB.out.trans (hb1.mono HB.out.size)); replace HC := Lib.hid (HC.out.below hb1 HC.out.lt); replace HE := Lib.hid (HE.out.below hb1 HE.out.lt); clear hE; have hE := HE.out.cell; clear hb1)
    | (go_at_call 31; refine (hof _).mono ?_; rintro e w1 ⟨rfl, hb1⟩; replace HB := Lib.hid (HB.out.trans (hb1.mono HB.out.size)); replace HC := Lib.hid (HC.out.below hb1 HC.out.lt); replace HE := Lib.hid (HE.out.below hb1 HE.out.lt); clear hE; have hE := HE.out.cell; clear hb1)
    | fail)
  clear hfi hof
  go_upto_region 14 with (first
    | (refine wpList_load_bl rfl 40 (.tmp 5) rfl _ rfl 40 _ _ HC.out Tryd.underlying40 rfl info40 ?_)
    | (go_at_call 32; refine (hju _ HB.out).mono ?_; rintro e w2 ⟨rfl, hb1⟩; replace HB := Lib.hid (HB.out.trans (hb1.mono HB.out.size)); replace HC := Lib.hid (HC.out.below hb1 HC.out.lt); replace HE := Lib.hid (HE.out.below hb1 HE.out.lt); clear hE; have hE := HE.out.cell; clear hb1)
    | fail)
  clear hju
  have HY : Hid (Bl w2.heap.size #[.int .i64 j1, .int .i64 j2, .int .i64 j3] 43 (w2.alloc (.cells #[.int .i64 j1, .int .i64 j2, .int .i64 j3] 43))) := Bl.new _ _ _
  replace HB := Lib.hid (HB.out.alloc HB.out.size (.cells #[.int .i64 j1, .int .i64 j2, .int .i64 j3] 43))
  replace HC := Lib.hid (HC.out.alloc (.cells #[.int .i64 j1, .int .i64 j2, .int .i64 j3] 43))
  replace HE := Lib.hid (HE.out.alloc (.cells #[.int .i64 j1, .int .i64 j2, .int .i64 j3] 43))
  clear hE
  have hE := HE.out.cell
  generalize w2.alloc (.cells #[.int .i64 j1, .int .i64 j2, .int .i64 j3] 43) = W2 at *
  generalize w2.heap.size = Y at *
  go_upto_region 15 with (first
    | (refine wpList_load_bl rfl 40 (.tmp 5) rfl _ rfl 40 _ _ HC.out Tryd.underlying40 rfl info40 ?_)
    | (go_at_call 33; refine (hoj _).mono ?_; rintro e w3 ⟨rfl, hb1⟩; replace HY := Lib.hid (HY.out.below hb1 HY.out.lt); replace HB := Lib.hid (HB.out.trans (hb1.mono HB.out.size)); replace HC := Lib.hid (HC.out.below hb1 HC.out.lt); replace HE := Lib.hid (HE.out.below hb1 HE.out.lt); clear hE; have hE := HE.out.cell; clear hb1)
    | fail)
  clear hoj
  have HZ : Hid (Bl w3.heap.size #[.int .i64 j1, .int .i64 j2, .int .i64 j3] 43 (w3.alloc (.cells #[.int .i64 j1, .int .i64 j2, .int .i64 j3] 43))) := Bl.new _ _ _
  replace HB := Lib.hid (HB.out.alloc HB.out.size (.cells #[.int .i64 j1, .int .i64 j2, .int .i64 j3] 43))
  replace HC := Lib.hid (HC.out.alloc (.cells #[.int .i64 j1, .int .i64 j2, .int .i64 j3] 43))
  replace HE := Lib.hid (HE.out.alloc (.cells #[.int .i64 j1, .int .i64 j2, .int .i64 j3] 43))
  replace HY := Lib.hid (HY.out.alloc (.cells #[.int .i64 j1, .int .i64 j2, .int .i64 j3] 43))
  clear hE
  have hE := HE.out.cell
  generalize w3.alloc (.cells #[.int .i64 j1, .int .i64 j2, .int .i64 j3] 43) = W3 at *
  generalize w3.heap.size = Z at *
  go_upto_region 17 with (first
    | (refine wpList_load_bl rfl 40 (.tmp 5) rfl _ rfl 40 _ _ HC.out Tryd.underlying40 rfl info40 ?_)
    | (go_at_call 23; refine (hda _ HB.out).mono ?_; rintro e w4 ⟨rfl, hb1⟩; replace HY := Lib.hid (HY.out.below hb1 HY.out.lt); replace HZ := Lib.hid (HZ.out.below hb1 HZ.out.lt); replace HB := Lib.hid (HB.out.trans (hb1.mono HB.out.size)); replace HC := Lib.hid (HC.out.below hb1 HC.out.lt); replace HE := Lib.hid (HE.out.below hb1 HE.out.lt); clear hE; have hE := HE.out.cell; clear hb1)
    | (go_at_call 34; refine (hoda _).mono ?_; rintro e w5 ⟨rfl, hb1⟩; replace HY := Lib.hid (HY.out.below hb1 HY.out.lt); replace HZ := Lib.hid (HZ.out.below hb1 HZ.out.lt); replace HB := Lib.hid (HB.out.trans (hb1.mono HB.out.size)); replace HC := Lib.hid (HC.out.below hb1 HC.out.lt); replace HE := Lib.hid (HE.out.below hb1 HE.out.lt); clear hE; have hE := HE.out.cell; clear hb1)
    | fail)
  clear hda hoda
  have hY := HY.out.cell
  have hZ := HZ.out.cell
  clear hE
  go_wp2_with (first
    | (go_at_call 22; refine (haw _ HB.out).mono ?_; rintro e w6 ⟨rfl, hb1⟩; have HB6 := Lib.hid (HB.out.trans (hb1.mono HB.out.size)); clear hb1)
    | fail)
  go_ret
  exact ⟨by first | rfl | trivial, HB6.out⟩
end Go.Proofs.YtaipifjmkbcjjaaDoor
