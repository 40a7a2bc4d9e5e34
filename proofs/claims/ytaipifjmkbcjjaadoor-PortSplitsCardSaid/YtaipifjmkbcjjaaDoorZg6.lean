/- Walks: the reference of ports: Judge. -/
import Derived.Test.YtaipifjmkbcjjaaDoorZRg
import Derived.Test.YtaipifjmkbcjjaaDoorZOs
import Derived.Deep.CutRange
namespace Go.Proofs.YtaipifjmkbcjjaaDoor
open Go.RowKit Go.Sort

theorem results_33 {tm : Array Value} {W : World} {B : Nat} {k a b v u : Value} (h2 : tm.getD 6 undef = .pointer (some ⟨B, 0, none⟩)) (h3 : tm.getD 7 undef = v) (h4 : tm.getD 8 undef = u)
    (b2 : Bl B #[k, a, b] 43 W) : (results Tryd.f33 tm).run Tryd.prog W = .ok (.tuple #[.agg #[k, a, b], v, u]) W := by
  rw [Array.getD_eq_getD_getElem?] at h2 h3 h4
  have z0 := b2.cell 0
  have z1 := b2.cell 1
  have z2 := b2.cell 2
  simp only [List.getElem?_toArray, List.getElem?_cons_zero, List.getElem?_cons_succ] at z0 z1 z2
  simp [results, Tryd.results33, go_sem, h2, h3, h4, z0, z1, z2]
theorem ojudge_ret {R : Ending → World → Prop} {ac : Act} {W : World} {B : Nat} {k a b v u : Value} (h2 : ac.tmps.getD 6 undef = .pointer (some ⟨B, 0, none⟩)) (h3 : ac.tmps.getD 7 undef = v) (h4 : ac.tmps.getD 8 undef = u) (hd : ac.defers = [])
    (b2 : Bl B #[k, a, b] 43 W) (hR : R (.returned (.tuple #[.agg #[k, a, b], v, u])) W) : bodyPost Tryd.prog Tryd.f33 R .ret ac W :=
  bodyPost_ret (results_33 h2 h3 h4 b2) hd hR

set_option maxRecDepth 100000 in
set_option maxHeartbeats 2000000 in
theorem ojudgeE_any (f c p : Int) (x : Nat → Value) (s : ByteArray) (w : World) (j : Jd) (er : Int) (hj : jdgE f c p s.data.toList = (j, er)) :
    Calls Tryd.prog 33 #[.agg (cfgA f c x), .int .i64 p, .string s] w fun e w' => e = .returned (.tuple #[.agg #[.int .i64 j.k, .int .i64 j.a, .int .i64 j.b], .int .i64 j.code, .int .i64 er]) ∧ Below w.heap.size w w' := by
  have HJ := Lib.hid hj
  clear hj
  have hva := fun W => ovalid_any f c x W
  have hwr := fun W => wrong_any p W
  have HC := Lib.hid ((Bl.new w (cfgA f c x) 40).alloc (.cells #[.int .i64 0, .int .i64 0, .int .i64 0] 43))
  have HE : Hid (Bl (w.heap.size + 1) #[.int .i64 0, .int .i64 0, .int .i64 0] 43 ((w.alloc (.cells (cfgA f c x) 40)).alloc (.cells #[.int .i64 0, .int .i64 0, .int .i64 0] 43))) := by
    have := Bl.new (w.alloc (.cells (cfgA f c x) 40)) #[.int .i64 0, .int .i64 0, .int .i64 0] 43
    rw [World.size_alloc] at this
    exact this
  have HB : Hid (Below w.heap.size w ((w.alloc (.cells (cfgA f c x) 40)).alloc (.cells #[.int .i64 0, .int .i64 0, .int .i64 0] 43))) := (below_alloc _ _).alloc (by simp) _
  by_cases hv : vErr f c = 0
  · have hd : decide (vErr f c = 0) = true := by simpa using hv
    rw [hd] at hva
    by_cases hp : 0 ≤ p ∧ p < 24
    · have hd2 : (!decide (0 ≤ p ∧ p < 24)) = false := by simp; omega
      rw [hd2] at hwr
      have hp0 := hp.1
      have hp1 := hp.2
      obtain ⟨d, hdd⟩ : ∃ d, decS s.data.toList = d := ⟨_, rfl⟩
      have hod := fun W => odecode_fields s W d hdd
      have HJ2 : Hid (jdg f c (1 + p / 8) d = j ∧ er = 0) := by
        have := HJ.out
        rw [jdgE, if_neg (by simpa using hv), if_neg (by simpa using hp), hdd] at this
        simp only [Prod.mk.injEq] at this
        exact ⟨this.1, this.2.symm⟩
      have hof := fun W => ofits_any f c d.k d.a d.b x W
      have HJD : Hid (j = if d.er ≠ 0 then ⟨0, 0, 0, 6⟩ else if fitsB f c d.k d.a d.b = false then ⟨0, 0, 0, 6⟩ else if d.t ≠ 1 + p / 8 then ⟨0, 0, 0, 5⟩ else ⟨d.k, d.a, d.b, 0⟩) := HJ2.out.1.symm
      obtain ⟨FB, hFB⟩ : ∃ FB, fitsB f c d.k d.a d.b = FB := ⟨_, rfl⟩
      rw [hFB] at HJD
      simp only [hFB] at hof
      clear hv hd hd2 hp hdd hFB
      generalize d.t = d1 at *
      generalize d.k = d2 at *
      generalize d.a = d3 at *
      generalize d.b = d4 at *
      generalize d.er = d5 at *
      generalize d.at' = d6 at *
      have w1' : IntKind.i64.wrap (1 + p / 8) = 1 + p / 8 := IntWalk.i64_in _ (by omega)
      -- the three ways
      have hway : (d5 ≠ 0) ∨ (d5 = 0 ∧ FB = false) ∨ (d5 = 0 ∧ FB = true ∧ d1 ≠ 1 + p / 8) ∨ (d5 = 0 ∧ FB = true ∧ d1 = 1 + p / 8) := by
        by_cases e1 : d5 = 0
        · cases FB with
          | false => exact .inr (.inl ⟨e1, rfl⟩)
          | true =>
            by_cases e2 : d1 = 1 + p / 8
            · exact .inr (.inr (.inr ⟨e1, rfl, e2⟩))
            · exact .inr (.inr (.inl ⟨e1, rfl, e2⟩))
        · exact .inl e1
      go_enter Tryd.func33, Tryd.ntmps33
      go_wp2_with (refine wpList_load_bl rfl 40 (.tmp 3) rfl _ rfl 40 _ _ HC.out Tryd.underlying40 rfl info40 ?_)
      refine (hva _).mono ?_
      rintro e w1 ⟨rfl, hb⟩
      have HC1 := Lib.hid (HC.out.below hb HC.out.lt)
      have HE1 := Lib.hid (HE.out.below hb HE.out.lt)
      have HB1 := Lib.hid (HB.out.trans (hb.mono HB.out.size))
      clear HC HE HB hb
      go_wp2_with fail
      refine (hwr _).mono ?_
      rintro e w2 ⟨rfl, rfl⟩
      go_wp2_with fail
      refine (hod _).mono ?_
      rintro e w2 ⟨rfl, hb⟩
      have HC2 := Lib.hid (((HC1.out.below hb HC1.out.lt).alloc (.cells #[.int .i64 d1, .int .i64 d2, .int .i64 d3, .int .i64 d4] 68)).alloc (.cells #[.int .i64 d5, .int .i64 d6] 70))
      have HE2 := Lib.hid (((HE1.out.below hb HE1.out.lt).alloc (.cells #[.int .i64 d1, .int .i64 d2, .int .i64 d3, .int .i64 d4] 68)).alloc (.cells #[.int .i64 d5, .int .i64 d6] 70))
      have HF2 := Lib.hid ((Bl.new w2 #[.int .i64 d1, .int .i64 d2, .int .i64 d3, .int .i64 d4] 68).alloc (.cells #[.int .i64 d5, .int .i64 d6] 70))
      have HG2 := Lib.hid (Bl.new (w2.alloc (.cells #[.int .i64 d1, .int .i64 d2, .int .i64 d3, .int .i64 d4] 68)) #[.int .i64 d5, .int .i64 d6] 70)
      rw [World.size_alloc] at HG2
      have HB2' := HB1.out.trans (hb.mono HB1.out.size)
      have HB2 := Lib.hid ((HB2'.alloc HB2'.size (.cells #[.int .i64 d1, .int .i64 d2, .int .i64 d3, .int .i64 d4] 68)).alloc (HB2'.alloc HB2'.size _).size (.cells #[.int .i64 d5, .int .i64 d6] 70))
      have hEF : w.heap.size + 1 < w2.heap.size := (HE1.out.below hb HE1.out.lt).lt
      clear HC1 HE1 HB1 hb HB2' hod
      go_upto_region 4 with fail
      generalize (w2.alloc (.cells #[.int .i64 d1, .int .i64 d2, .int .i64 d3, .int .i64 d4] 68)).alloc (.cells #[.int .i64 d5, .int .i64 d6] 70) = W at *
      have hwB : w.heap.size ≤ w.heap.size + 1 := by omega
      have n1 : ¬ w.heap.size = w2.heap.size := by omega
      have hF := HF2.out.cell
      have hG := HG2.out.cell
      rcases hway with e1 | ⟨rfl, rfl⟩ | ⟨rfl, rfl, e2⟩ | ⟨rfl, rfl, e2⟩
      · have her : (d5 != 0) = true := by simpa using e1
        have HJ3 : Hid (j = ⟨0, 0, 0, 6⟩) := by have := HJD.out; rw [if_pos e1] at this; exact this
        have hE := HE2.out.cell
        have hEf := HE2.out.fr
        clear e1 HJD
        go_wp2_with fail
        refine ojudge_ret rfl rfl rfl rfl (bl_store3 HE2.out _ _ _) ⟨?_, below_store3 HB2.out (by omega) _ _ _⟩
        rw [HJ3.out, HJ2.out.2]; rfl
      · have HJ3 : Hid (j = ⟨0, 0, 0, 6⟩) := by have := HJD.out; rw [if_neg (by simp), if_pos rfl] at this; exact this
        clear HJD
        go_wp2_with (first
          | (refine wpList_load_bl rfl 40 (.tmp 3) rfl _ rfl 40 _ _ HC2.out Tryd.underlying40 rfl info40 ?_)
          | (go_at_call 66; refine (hof _).mono ?_; rintro e w3 ⟨rfl, hb⟩; have HE3 := Lib.hid (HE2.out.below hb HE2.out.lt); have HB3 := Lib.hid (HB2.out.trans (hb.mono HB2.out.size)); have hE := HE3.out.cell; have hEf := HE3.out.fr; clear hb)
          | fail)
        refine ojudge_ret rfl rfl rfl rfl (bl_store3 HE3.out _ _ _) ⟨?_, below_store3 HB3.out (by omega) _ _ _⟩
        rw [HJ3.out, HJ2.out.2]; rfl
      · have HJ3 : Hid (j = ⟨0, 0, 0, 5⟩) := by have := HJD.out; rw [if_neg (by simp), if_neg (by simp), if_pos e2] at this; exact this
        have q2 : (d1 != 1 + p / 8) = true := by simpa using e2
        clear HJD e2
        go_wp2_with (first
          | (refine wpList_load_bl rfl 40 (.tmp 3) rfl _ rfl 40 _ _ HC2.out Tryd.underlying40 rfl info40 ?_)
          | (go_at_call 66; refine (hof _).mono ?_; rintro e w3 ⟨rfl, hb⟩; have HE3 := Lib.hid (HE2.out.below hb HE2.out.lt); have HF3 := Lib.hid (HF2.out.below hb HF2.out.lt); have HB3 := Lib.hid (HB2.out.trans (hb.mono HB2.out.size)); have hE := HE3.out.cell; have hEf := HE3.out.fr; have hF3 := HF3.out.cell; clear hb)
          | fail)
        refine ojudge_ret rfl rfl rfl rfl (bl_store3 HE3.out _ _ _) ⟨?_, below_store3 HB3.out (by omega) _ _ _⟩
        rw [HJ3.out, HJ2.out.2]; rfl
      · have HJ3 : Hid (j = ⟨d2, d3, d4, 0⟩) := by have := HJD.out; rw [if_neg (by simp), if_neg (by simp), if_neg (by simpa using e2)] at this; exact this
        have q2 : (d1 != 1 + p / 8) = false := by simpa using e2
        clear HJD e2
        go_wp2_with (first
          | (refine wpList_load_bl rfl 40 (.tmp 3) rfl _ rfl 40 _ _ HC2.out Tryd.underlying40 rfl info40 ?_)
          | (go_at_call 66; refine (hof _).mono ?_; rintro e w3 ⟨rfl, hb⟩; have HE3 := Lib.hid (HE2.out.below hb HE2.out.lt); have HF3 := Lib.hid (HF2.out.below hb HF2.out.lt); have HB3 := Lib.hid (HB2.out.trans (hb.mono HB2.out.size)); have hE := HE3.out.cell; have hEf := HE3.out.fr; have hF3 := HF3.out.cell; clear hb)
          | fail)
        refine ojudge_ret rfl rfl rfl rfl (bl_store3 HE3.out _ _ _) ⟨?_, below_store3 HB3.out (by omega) _ _ _⟩
        rw [HJ3.out, HJ2.out.2]; rfl
    · have hd2 : (!decide (0 ≤ p ∧ p < 24)) = true := by simp; omega
      rw [hd2] at hwr
      have HJ2 : Hid (j = ⟨0, 0, 0, 0⟩ ∧ er = 2) := by
        have := HJ.out
        rw [jdgE, if_neg (by simpa using hv), if_pos hp] at this
        simp only [Prod.mk.injEq] at this
        exact ⟨this.1.symm, this.2.symm⟩
      clear hv hd hd2 hp
      go_enter Tryd.func33, Tryd.ntmps33
      go_wp2_with (refine wpList_load_bl rfl 40 (.tmp 3) rfl _ rfl 40 _ _ HC.out Tryd.underlying40 rfl info40 ?_)
      refine (hva _).mono ?_
      rintro e w1 ⟨rfl, hb⟩
      have HE1 := Lib.hid (HE.out.below hb HE.out.lt)
      have HB1 := Lib.hid (HB.out.trans (hb.mono HB.out.size))
      clear HC HE HB hb
      have hE := HE1.out.cell
      have hEf := HE1.out.fr
      go_wp2_with fail
      refine (hwr _).mono ?_
      rintro e w2 ⟨rfl, rfl⟩
      go_wp2
      refine ojudge_ret rfl rfl rfl rfl (bl_store3 HE1.out _ _ _) ⟨?_, below_store3 HB1.out (by omega) _ _ _⟩
      rw [HJ2.out.1, HJ2.out.2]; rfl
  · have hd : decide (vErr f c = 0) = false := by simpa using hv
    rw [hd] at hva
    have HJ2 : Hid (j = ⟨0, 0, 0, 0⟩ ∧ er = 2) := by
      have := HJ.out
      rw [jdgE, if_pos hv, vErr_two hv] at this
      simp only [Prod.mk.injEq] at this
      exact ⟨this.1.symm, this.2.symm⟩
    clear hv hd
    go_enter Tryd.func33, Tryd.ntmps33
    go_wp2_with (refine wpList_load_bl rfl 40 (.tmp 3) rfl _ rfl 40 _ _ HC.out Tryd.underlying40 rfl info40 ?_)
    refine (hva _).mono ?_
    rintro e w1 ⟨rfl, hb⟩
    have HE1 := Lib.hid (HE.out.below hb HE.out.lt)
    have HB1 := Lib.hid (HB.out.trans (hb.mono HB.out.size))
    clear HC HE HB hb
    have hE := HE1.out.cell
    have hEf := HE1.out.fr
    go_wp2
    refine ojudge_ret rfl rfl rfl rfl (bl_store3 HE1.out _ _ _) ⟨?_, below_store3 HB1.out (by omega) _ _ _⟩
    rw [HJ2.out.1, HJ2.out.2]; rfl
end Go.Proofs.YtaipifjmkbcjjaaDoor

/- Walks: PortJudges. -/
namespace Go.Proofs.YtaipifjmkbcjjaaDoor
open Go.RowKit Go.Sort

def domS (p : Int) : Int × Int := if 0 ≤ p ∧ p < 24 then (1 + p / 8, 0) else (0, 2)
theorem dom_any (p : Int) (w : World) : Calls Tryd.prog 19 #[.int .i64 p] w fun e w' => e = .returned (.tuple #[.int .i64 (domS p).1, .int .i64 (domS p).2]) ∧ w = w' := by
  unfold domS
  by_cases h : 0 ≤ p ∧ p < 24
  · rw [if_pos h]; exact domain_ok p w h.1 h.2
  · rw [if_neg h]; exact domain_bad p w h
theorem odom_any (p : Int) (w : World) : Calls Tryd.prog 28 #[.int .i64 p] w fun e w' => e = .returned (.tuple #[.int .i64 (domS p).1, .int .i64 (domS p).2]) ∧ w = w' := by
  unfold domS
  by_cases h : 0 ≤ p ∧ p < 24
  · rw [if_pos h]; exact odomain_ok p w h.1 h.2
  · rw [if_neg h]; exact odomain_bad p w h
theorem portsS_len (d : Int) : (portsS d).1.length ≤ maxLen := by
  unfold portsS; split
  · simp [dom8, maxLen]
  · simp [maxLen]

set_option maxRecDepth 100000 in
set_option maxHeartbeats 4000000 in
theorem PortJudges_any (f c : Int) (x : Nat → Value) (ga : Option Addr) (gn gc : Nat) (hx1 : x 1 = .slice ga gn gc) (p d : Int) (s : ByteArray) (k a b : Int) (w : World) (hg : Glob w) :
    Calls Tryd.prog 6 #[.agg (cfgA f c x), .int .i64 p, .int .i64 d, .string s, .agg #[.int .i64 k, .int .i64 a, .int .i64 b]] w fun e w' => e = .returned (.bool true) ∧ Below w.heap.size w w' := by
  have haw : ∀ W, Below w.heap.size w W → Calls Tryd.prog 22 #[] W _ := fun W hb => awake_any W (hg.next hb)
  have HC := Lib.hid ((Bl.new w (cfgA f c x) 40).alloc (.cells #[.int .i64 k, .int .i64 a, .int .i64 b] 43))
  have HE : Hid (Bl (w.heap.size + 1) #[.int .i64 k, .int .i64 a, .int .i64 b] 43 ((w.alloc (.cells (cfgA f c x) 40)).alloc (.cells #[.int .i64 k, .int .i64 a, .int .i64 b] 43))) := by
    have := Bl.new (w.alloc (.cells (cfgA f c x) 40)) #[.int .i64 k, .int .i64 a, .int .i64 b] 43
    rw [World.size_alloc] at this
    exact this
  have HB : Hid (Below w.heap.size w ((w.alloc (.cells (cfgA f c x) 40)).alloc (.cells #[.int .i64 k, .int .i64 a, .int .i64 b] 43))) := (below_alloc _ _).alloc (by simp) _
  by_cases h40 : (40 : Int) < (s.size : Int)
  · have h40' : decide ((40 : Int) < (s.size : Int)) = true := by simpa using h40
    clear h40
    go_enter Tryd.func6, Tryd.ntmps6
    go_wp2_with (first
      | (go_at_call 22; refine (haw _ HB.out).mono ?_; rintro e w6 ⟨rfl, hb1⟩; have HB6 := Lib.hid (HB.out.trans (hb1.mono HB.out.size)); clear hb1)
      | fail)
    go_ret
    exact ⟨by first | rfl | trivial, HB6.out⟩
  have h40' : decide ((40 : Int) < (s.size : Int)) = false := by simpa using h40
  have hG : ((w.alloc (.cells (cfgA f c x) 40)).alloc (.cells #[.int .i64 k, .int .i64 a, .int .i64 b] 43)).cell? ⟨w.heap.size, 1, none⟩ = some (.slice ga gn gc) := by
    rw [HC.out.cell, ← hx1]; rfl
  have hG2 : (cfgA f c x)[1]? = some (.slice ga gn gc) := by rw [← hx1]; rfl
  have hsm : s.size ≤ maxLen := by unfold maxLen; omega
  clear h40
  have HX1 := Lib.hid hx1
  clear hx1
  by_cases h70 : (70 : Int) < (gn : Int)
  · have h70' : decide ((70 : Int) < (gn : Int)) = true := by simpa using h70
    clear h70
    go_enter Tryd.func6, Tryd.ntmps6
    go_wp2_with (first
      | (go_at_call 22; refine (haw _ HB.out).mono ?_; rintro e w6 ⟨rfl, hb1⟩; have HB6 := Lib.hid (HB.out.trans (hb1.mono HB.out.size)); clear hb1)
      | fail)
    go_ret
    exact ⟨by first | rfl | trivial, HB6.out⟩
  have h70' : decide ((70 : Int) < (gn : Int)) = false := by simpa using h70
  clear h70
  have hdo := fun W => dom_any p W
  have hod := fun W => odom_any p W
  have hpo := fun W => ports_sees d W
  have hop := fun W => oports_sees d W
  have hpl := portsS_len d
  have hfi := fun W => fitsE_any f c k a b x W
  have hof := fun W => ofitsE_any f c k a b x W
  obtain ⟨⟨j, er⟩, hj⟩ : ∃ q, jdgE f c p s.data.toList = q := ⟨_, rfl⟩
  have hju : ∀ W, Below w.heap.size w W → Calls Tryd.prog 32 #[.agg (cfgA f c x), .int .i64 p, .string s] W _ := fun W hb => judgeE_any f c p x s W hsm (hg.next hb) j er hj
  have hoj := fun W => ojudgeE_any f c p x s W j er hj
  obtain ⟨⟨r, e2⟩, hr⟩ : ∃ q, dataS f c p k a b = q := ⟨_, rfl⟩
  have hda : ∀ W, Below w.heap.size w W → Calls Tryd.prog 23 #[.agg (cfgA f c x), .int .i64 p, .agg #[.int .i64 k, .int .i64 a, .int .i64 b]] W _ := fun W hb => data_any f c p k a b x W (hg.next hb) r e2 hr
  have hoda := fun W => odata_any f c p k a b x W r e2 hr
  clear hj hr hsm
  generalize (domS p).1 = D1 at *
  generalize (domS p).2 = D2 at *
  generalize (portsS d).1 = L1 at *
  generalize (portsS d).2 = L2 at *
  generalize (fitsS f c k a b).1 = F1 at *
  generalize (fitsS f c k a b).2 = F2 at *
  generalize bs r = R at *
  obtain ⟨j1, j2, j3, j4⟩ := j
  dsimp only at hju hoj
  have hE := HE.out.cell
  go_enter Tryd.func6, Tryd.ntmps6
  go_upto_region 3 with fail
  generalize (w.alloc (.cells (cfgA f c x) 40)).alloc (.cells #[.int .i64 k, .int .i64 a, .int .i64 b] 43) = W0 at *
  clear hG
  go_upto_region 7 with (first
    | (go_at_call 19; refine (hdo _).mono ?_; rintro e w1 ⟨rfl, rfl⟩)
    | (go_at_call 28; refine (hod _).mono ?_; rintro e w1 ⟨rfl, rfl⟩)
    | (go_at_call 20; refine (hpo _).mono ?_; rintro e w1 ⟨v1, rfl, hs1, hb1⟩; have S1 := Lib.hid hs1; clear hs1; replace HB := Lib.hid (HB.out.trans (hb1.mono HB.out.size)); replace HC := Lib.hid (HC.out.below hb1 HC.out.lt); replace HE := Lib.hid (HE.out.below hb1 HE.out.lt); clear hE; have hE := HE.out.cell; clear hb1)
    | (go_at_call 29; refine (hop _).mono ?_; rintro e w1 ⟨v2, rfl, hs1, hb1⟩; have S2 := Lib.hid hs1; clear hs1; replace HB := Lib.hid (HB.out.trans (hb1.mono HB.out.size)); replace HC := Lib.hid (HC.out.below hb1 HC.out.lt); replace HE := Lib.hid (HE.out.below hb1 HE.out.lt); clear hE; have hE := HE.out.cell; replace S1 := Lib.hid (S1.out.block hb1); clear hb1)
    | fail)
  clear hdo hod hpo hop
  go_upto_region 9 with (first
    | (go_at_call 30; refine (sameInts_sees S1.out S2.out hpl).mono ?_; rintro e w1 ⟨rfl, hb1⟩; replace HB := Lib.hid (HB.out.trans (hb1.mono HB.out.size)); replace HC := Lib.hid (HC.out.below hb1 HC.out.lt); replace HE := Lib.hid (HE.out.below hb1 HE.out.lt); clear hE; have hE := HE.out.cell; clear hb1)
    | fail)
  clear hpl S1 S2
  go_upto_region 13 with (first
    | (refine wpList_load_bl rfl 40 (.tmp 5) rfl _ rfl 40 _ _ HC.out Tryd.underlying40 rfl info40 ?_)
    | (go_at_call 27; refine (hfi _).mono ?_; rintro e w1 ⟨rfl, hb1⟩; replace HB := Lib.hid (HB.out.trans (hb1.mono HB.out.size)); replace HC := Lib.hid (HC.out.below hb1 HC.out.lt); replace HE := Lib.hid (HE.out.below hb1 HE.out.lt); clear hE; have hE := HE.out.cell; clear hb1)
    | (go_at_call 31; refine (hof _).mono ?_; rintro e w1 ⟨rfl, hb1⟩; replace HB := Lib.hid (HB.out.trans (hb1.mono HB.out.size)); replace HC := Lib.hid (HC.out.below hb1 HC.out.lt); replace HE := Lib.hid (HE.out.below hb1 HE.out.lt); clear hE; have hE := HE.out.cell; clear hb1)
    | fail)
  clear hfi hof
  go_upto_region 14 with (first
    | (refine wpList_load_bl rfl 40 (.tmp 5) rfl _ rfl 40 _ _ HC.out Tryd.underlying40 rfl info40 ?_)
    | (go_at_call 32; refine (hju _ HB.out).mono ?_; rintro e w2 ⟨rfl, hb1⟩; replace HB := Lib.hid (HB.out.trans (hb1.mono HB.out.size)); replace HC := Lib.hid (HC.out.below hb1 HC.out.lt); replace HE := Lib.hid (HE.out.below hb1 HE.out.lt); clear hE; have hE := HE.out.cell; clear hb1)
    | fail)
  clear hju
  have HY : Hid (Bl w2.heap.size #[.int .i64 j1, .int .i64 j2, .int .i64 j3] 43 (w2.alloc (.cells #[.int .i64 j1, .int .i64 j2, .int .i64 j3] 43))) := Bl.new _ _ _
  replace HB := Lib.hid (HB.out.alloc HB.out.size (.cells #[.int .i64 j1, .int .i64 j2, .int .i64 j3] 43))
  replace HC := Lib.hid (HC.out.alloc (.cells #[.int .i64 j1, .int .i64 j2, .int .i64 j3] 43))
  replace HE := Lib.hid (HE.out.alloc (.cells #[.int .i64 j1, .int .i64 j2, .int .i64 j3] 43))
  clear hE
  have hE := HE.out.cell
  generalize w2.alloc (.cells #[.int .i64 j1, .int .i64 j2, .int .i64 j3] 43) = W2 at *
  generalize w2.heap.size = Y at *
  go_upto_region 15 with (first
    | (refine wpList_load_bl rfl 40 (.tmp 5) rfl _ rfl 40 _ _ HC.out Tryd.underlying40 rfl info40 ?_)
    | (go_at_call 33; refine (hoj _).mono ?_; rintro e w3 ⟨rfl, hb1⟩; replace HY := Lib.hid (HY.out.below hb1 HY.out.lt); replace HB := Lib.hid (HB.out.trans (hb1.mono HB.out.size)); replace HC := Lib.hid (HC.out.below hb1 HC.out.lt); replace HE := Lib.hid (HE.out.below hb1 HE.out.lt); clear hE; have hE := HE.out.cell; clear hb1)
    | fail)
  clear hoj
  have HZ : Hid (Bl w3.heap.size #[.int .i64 j1, .int .i64 j2, .int .i64 j3] 43 (w3.alloc (.cells #[.int .i64 j1, .int .i64 j2, .int .i64 j3] 43))) := Bl.new _ _ _
  replace HB := Lib.hid (HB.out.alloc HB.out.size (.cells #[.int .i64 j1, .int .i64 j2, .int .i64 j3] 43))
  replace HC := Lib.hid (HC.out.alloc (.cells #[.int .i64 j1, .int .i64 j2, .int .i64 j3] 43))
  replace HE := Lib.hid (HE.out.alloc (.cells #[.int .i64 j1, .int .i64 j2, .int .i64 j3] 43))
  replace HY := Lib.hid (HY.out.alloc (.cells #[.int .i64 j1, .int .i64 j2, .int .i64 j3] 43))
  clear hE
  have hE := HE.out.cell
  generalize w3.alloc (.cells #[.int .i64 j1, .int .i64 j2, .int .i64 j3] 43) = W3 at *
  generalize w3.heap.size = Z at *
  go_upto_region 17 with (first
    | (refine wpList_load_bl rfl 40 (.tmp 5) rfl _ rfl 40 _ _ HC.out Tryd.underlying40 rfl info40 ?_)
    | (go_at_call 23; refine (hda _ HB.out).mono ?_; rintro e w4 ⟨rfl, hb1⟩; replace HY := Lib.hid (HY.out.below hb1 HY.out.lt); replace HZ := Lib.hid (HZ.out.below hb1 HZ.out.lt); replace HB := Lib.hid (HB.out.trans (hb1.mono HB.out.size)); replace HC := Lib.hid (HC.out.below hb1 HC.out.lt); replace HE := Lib.hid (HE.out.below hb1 HE.out.lt); clear hE; have hE := HE.out.cell; clear hb1)
    | (go_at_call 34; refine (hoda _).mono ?_; rintro e w5 ⟨rfl, hb1⟩; replace HY := Lib.hid (HY.out.below hb1 HY.out.lt); replace HZ := Lib.hid (HZ.out.below hb1 HZ.out.lt); replace HB := Lib.hid (HB.out.trans (hb1.mono HB.out.size)); replace HC := Lib.hid (HC.out.below hb1 HC.out.lt); replace HE := Lib.hid (HE.out.below hb1 HE.out.lt); clear hE; have hE := HE.out.cell; clear hb1)
    | fail)
  clear hda hoda
  have hY := HY.out.cell
  have hZ := HZ.out.cell
  clear hE
  go_wp2_with (first
    | (go_at_call 22; refine (haw _ HB.out).mono ?_; rintro e w6 ⟨rfl, hb1⟩; have HB6 := Lib.hid (HB.out.trans (hb1.mono HB.out.size)); clear hb1)
    | fail)
  go_ret
  exact ⟨by first | rfl | trivial, HB6.out⟩
end Go.Proofs.YtaipifjmkbcjjaaDoor
