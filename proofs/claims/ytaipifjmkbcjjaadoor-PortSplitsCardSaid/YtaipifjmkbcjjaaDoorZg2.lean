/- Walks: what arrives at a port. -/
import Derived.Test.YtaipifjmkbcjjaaDoorZL
import Derived.Test.YtaipifjmkbcjjaaDoorZg0
import Derived.Test.YtaipifjmkbcjjaaDoorZg1
namespace Go.Proofs.YtaipifjmkbcjjaaDoor
open Go.RowKit Go.Sort

/-- The cells of a configuration that do not matter, at zero. -/
def x0 (i : Nat) : Value := if i = 1 ∨ i = 13 ∨ i = 23 then .slice none 0 0 else if i = 14 ∨ i = 17 ∨ i = 20 then .int .u64 0 else .int .i64 0

theorem info40 : (Tryd.prog.info? 40).map (·.size) = some 25 := by kernel_rfl

theorem below_grown {B : Nat} {w0 w w' : World} {g : Nat} (h : Below B w0 w) (hg : w.grownBy w' (some g)) (hB : B ≤ g) (hs : B ≤ w.heap.size) : Below B w0 w' :=
  h.grown hg hs (fun k hk => by cases hk; exact hB)

set_option maxRecDepth 100000 in
theorem four_any (w : World) : Calls Tryd.prog 24 #[] w fun e w' => e = .returned (.agg (cfgA 4 2 x0)) ∧ Below w.heap.size w w' := by
  go_enter Tryd.func24, Tryd.ntmps24
  go_wp2_with (refine wpList_store_bl rfl 40 (.tmp 0) (.tmp 1) rfl _ rfl 40 _ _ rfl (Bl.new _ _ _) rfl info40 ?_ ?_)
  · simp [Value.oneCell']
  · intro w1 hB1 hG1
    go_wp2
    refine bodyPost_ret (v := .agg (cfgA 4 2 x0)) ?_ rfl ⟨rfl, below_grown (below_alloc _ _) hG1 (Nat.le_refl _) (by simp)⟩
    exact results_bl (d := .struct _) rfl _ _ _ 40 _ rfl hB1 Tryd.underlying40 rfl info40

set_option maxRecDepth 100000 in
set_option maxHeartbeats 400000 in
theorem fitsE_ok (f c k a b : Int) (x : Nat → Value) (w : World) (h : vErr f c = 0) :
    Calls Tryd.prog 27 #[.agg (cfgA f c x), .agg #[.int .i64 k, .int .i64 a, .int .i64 b]] w fun e w' => e = .returned (.tuple #[.bool (fitsB f c k a b), .int .i64 0]) ∧ Below w.heap.size w w' := by
  have hf : 2 ≤ f ∧ f ≤ 64 := by unfold vErr at h; split at h <;> omega
  have H := Lib.hid h
  clear h
  have HB := Lib.hid ((Bl.new w (cfgA f c x) 40).alloc (.cells #[.int .i64 k, .int .i64 a, .int .i64 b] 43))
  go_enter Tryd.func27, Tryd.ntmps27
  go_wp2_with (refine wpList_load_bl rfl 40 (.tmp 2) rfl _ rfl 40 _ _ HB.out Tryd.underlying40 rfl info40 ?_)
  refine (valid_any _ _ _ _).mono ?_
  rintro e w1 ⟨rfl, hb⟩
  rw [H.out]
  have hB1 := Lib.hid (HB.out.below hb HB.out.lt)
  have hB2 : Bl (w.heap.size + 1) #[.int .i64 k, .int .i64 a, .int .i64 b] 43 w1 := by
    have := (Bl.new (w.alloc (.cells (cfgA f c x) 40)) #[.int .i64 k, .int .i64 a, .int .i64 b] 43).below hb (by simp only [World.size_alloc]; omega)
    rw [World.size_alloc] at this
    exact this
  have HW := Lib.hid ((((Below.refl _ _).alloc (Nat.le_refl _) (.cells (cfgA f c x) 40)).alloc (by simp) (.cells #[.int .i64 k, .int .i64 a, .int .i64 b] 43)).trans (hb.mono (by simp only [World.size_alloc]; omega)))
  clear hb HB
  have c2 := hB2.cell
  go_wp2_with (refine wpList_load_bl rfl 40 (.tmp 2) rfl _ rfl 40 _ _ hB1.out Tryd.underlying40 rfl info40 ?_)
  refine (fits_any _ _ _ _ _ _ _ hf.1 hf.2).mono ?_
  rintro e w2 ⟨rfl, hb2⟩
  clear c2
  go_wp2
  go_ret2
  exact ⟨rfl, HW.out.trans (hb2.mono HW.out.size)⟩

set_option maxRecDepth 100000 in
set_option maxHeartbeats 400000 in
theorem fitsE_bad (f c k a b : Int) (x : Nat → Value) (w : World) (h : vErr f c ≠ 0) :
    Calls Tryd.prog 27 #[.agg (cfgA f c x), .agg #[.int .i64 k, .int .i64 a, .int .i64 b]] w fun e w' => e = .returned (.tuple #[.bool false, .int .i64 (vErr f c)]) ∧ Below w.heap.size w w' := by
  have hne : (vErr f c != 0) = true := by simpa using h
  clear h
  have HB := Lib.hid ((Bl.new w (cfgA f c x) 40).alloc (.cells #[.int .i64 k, .int .i64 a, .int .i64 b] 43))
  go_enter Tryd.func27, Tryd.ntmps27
  go_wp2_with (refine wpList_load_bl rfl 40 (.tmp 2) rfl _ rfl 40 _ _ HB.out Tryd.underlying40 rfl info40 ?_)
  refine (valid_any _ _ _ _).mono ?_
  rintro e w1 ⟨rfl, hb⟩
  have HW := Lib.hid ((((Below.refl _ _).alloc (Nat.le_refl _) (.cells (cfgA f c x) 40)).alloc (by simp) (.cells #[.int .i64 k, .int .i64 a, .int .i64 b] 43)).trans (hb.mono (by simp only [World.size_alloc]; omega)))
  clear hb HB
  go_wp2
  go_ret2
  exact ⟨rfl, HW.out⟩

end Go.Proofs.YtaipifjmkbcjjaaDoor

/- Walks: a port judges. -/
namespace Go.Proofs.YtaipifjmkbcjjaaDoor
open Go.RowKit Go.Sort

theorem decode_fields (s : ByteArray) (w : World) (hm : s.size ≤ maxLen) (hg : Glob w) (d : DecR) (hd : decS s.data.toList = d) :
    Calls Tryd.prog 43 #[.string s] w fun e w' => e = .returned (.tuple #[.agg #[.int .i64 d.t, .int .i64 d.k, .int .i64 d.a, .int .i64 d.b], .agg #[.int .i64 d.er, .int .i64 d.at']]) ∧ Below w.heap.size w w' := by
  subst hd; exact decode_any s w hm hg

/-- What arrives at a port of a domain: an event (kind, A, B) and a code. -/
structure Jd where
  k : Int
  a : Int
  b : Int
  code : Int
def jdg (f c d : Int) (r : DecR) : Jd :=
  if r.er ≠ 0 then ⟨0, 0, 0, 6⟩ else if fitsB f c r.k r.a r.b = false then ⟨0, 0, 0, 6⟩ else if r.t ≠ d then ⟨0, 0, 0, 5⟩ else ⟨r.k, r.a, r.b, 0⟩

theorem results_67 {tm : Array Value} {W : World} {B : Nat} {k a b v : Value} (h2 : tm.getD 6 undef = .pointer (some ⟨B, 0, none⟩)) (h3 : tm.getD 7 undef = v)
    (b2 : Bl B #[k, a, b] 43 W) : (results Tryd.f67 tm).run Tryd.prog W = .ok (.tuple #[.agg #[k, a, b], v]) W := by
  rw [Array.getD_eq_getD_getElem?] at h2 h3
  have z0 := b2.cell 0
  have z1 := b2.cell 1
  have z2 := b2.cell 2
  simp only [List.getElem?_toArray, List.getElem?_cons_zero, List.getElem?_cons_succ] at z0 z1 z2
  simp [results, Tryd.results67, go_sem, h2, h3, z0, z1, z2]

theorem judge_ret {R : Ending → World → Prop} {ac : Act} {W : World} {B : Nat} {k a b v : Value} (h2 : ac.tmps.getD 6 undef = .pointer (some ⟨B, 0, none⟩)) (h3 : ac.tmps.getD 7 undef = v) (hd : ac.defers = [])
    (b2 : Bl B #[k, a, b] 43 W) (hR : R (.returned (.tuple #[.agg #[k, a, b], v])) W) : bodyPost Tryd.prog Tryd.f67 R .ret ac W :=
  bodyPost_ret (results_67 h2 h3 b2) hd hR

theorem bl_store3 {B : Nat} {w : World} {k0 a0 b0 : Value} (h : Bl B #[k0, a0, b0] 43 w) (k a b : Value) :
    Bl B #[k, a, b] 43 (((w.setCell ⟨B, 0, none⟩ k).setCell ⟨B, 1, none⟩ a).setCell ⟨B, 2, none⟩ b) := ((h.set 0 k).set 1 a).set 2 b
theorem below_store3 {B : Nat} {w0 w : World} (h : Below w0.heap.size w0 w) (hB : w0.heap.size ≤ B) (k a b : Value) :
    Below w0.heap.size w0 (((w.setCell ⟨B, 0, none⟩ k).setCell ⟨B, 1, none⟩ a).setCell ⟨B, 2, none⟩ b) := ((h.setCell hB k).setCell hB a).setCell hB b

set_option maxRecDepth 100000 in
set_option maxHeartbeats 1000000 in
theorem judge_any (f c d : Int) (x : Nat → Value) (s : ByteArray) (w : World) (hf1 : 2 ≤ f) (hf2 : f ≤ 64) (hm : s.size ≤ maxLen) (hg : Glob w) (j : Jd) (hj : jdg f c d (decS s.data.toList) = j) :
    Calls Tryd.prog 67 #[.agg (cfgA f c x), .int .i64 d, .string s] w fun e w' => e = .returned (.tuple #[.agg #[.int .i64 j.k, .int .i64 j.a, .int .i64 j.b], .int .i64 j.code]) ∧ Below w.heap.size w w' := by
  obtain ⟨r, hr⟩ : ∃ r, decS s.data.toList = r := ⟨_, rfl⟩
  rw [hr] at hj
  have HR := Lib.hid hr
  clear hr
  have HJ := Lib.hid hj
  clear hj
  have HC := Lib.hid ((Bl.new w (cfgA f c x) 40).alloc (.cells #[.int .i64 0, .int .i64 0, .int .i64 0] 43))
  have HE : Hid (Bl (w.heap.size + 1) #[.int .i64 0, .int .i64 0, .int .i64 0] 43 ((w.alloc (.cells (cfgA f c x) 40)).alloc (.cells #[.int .i64 0, .int .i64 0, .int .i64 0] 43))) := by
    have := Bl.new (w.alloc (.cells (cfgA f c x) 40)) #[.int .i64 0, .int .i64 0, .int .i64 0] 43
    rw [World.size_alloc] at this
    exact this
  have HB : Hid (Below w.heap.size w ((w.alloc (.cells (cfgA f c x) 40)).alloc (.cells #[.int .i64 0, .int .i64 0, .int .i64 0] 43))) := (below_alloc _ _).alloc (by simp) _
  go_enter Tryd.func67, Tryd.ntmps67
  go_wp2_with fail
  generalize (w.alloc (.cells (cfgA f c x) 40)).alloc (.cells #[.int .i64 0, .int .i64 0, .int .i64 0] 43) = W at *
  refine (decode_fields _ _ hm (hg.next HB.out) r HR.out).mono ?_
  rintro e w1 ⟨rfl, hb⟩
  have HC1 := (HC.out.below hb HC.out.lt)
  have HE1 := (HE.out.below hb HE.out.lt)
  have HB1 := HB.out.trans (hb.mono HB.out.size)
  clear HC HE HB hb
  have HC2 := Lib.hid ((HC1.alloc (.cells #[.int .i64 r.t, .int .i64 r.k, .int .i64 r.a, .int .i64 r.b] 68)).alloc (.cells #[.int .i64 r.er, .int .i64 r.at'] 70))
  have HE2 := Lib.hid ((HE1.alloc (.cells #[.int .i64 r.t, .int .i64 r.k, .int .i64 r.a, .int .i64 r.b] 68)).alloc (.cells #[.int .i64 r.er, .int .i64 r.at'] 70))
  have HF2 := Lib.hid ((Bl.new w1 #[.int .i64 r.t, .int .i64 r.k, .int .i64 r.a, .int .i64 r.b] 68).alloc (.cells #[.int .i64 r.er, .int .i64 r.at'] 70))
  have HG2 : Hid (Bl (w1.heap.size + 1) #[.int .i64 r.er, .int .i64 r.at'] 70 ((w1.alloc (.cells #[.int .i64 r.t, .int .i64 r.k, .int .i64 r.a, .int .i64 r.b] 68)).alloc (.cells #[.int .i64 r.er, .int .i64 r.at'] 70))) := by
    have := Bl.new (w1.alloc (.cells #[.int .i64 r.t, .int .i64 r.k, .int .i64 r.a, .int .i64 r.b] 68)) #[.int .i64 r.er, .int .i64 r.at'] 70
    rw [World.size_alloc] at this
    exact this
  have HB2 := Lib.hid ((HB1.alloc HB1.size (.cells #[.int .i64 r.t, .int .i64 r.k, .int .i64 r.a, .int .i64 r.b] 68)).alloc (by have := HB1.size; simp; omega) (.cells #[.int .i64 r.er, .int .i64 r.at'] 70))
  clear HC1 HE1 HB1
  by_cases her : r.er = 0
  · have e1 : (r.er != 0) = false := by simpa using her
    cases hx : fitsB f c r.k r.a r.b with
    | false =>
      have HX := Lib.hid hx
      have HJ2 : Hid (j = ⟨0, 0, 0, 6⟩) := by show _ = _; rw [← HJ.out, jdg, if_neg (by simpa using her), if_pos hx]
      clear her hx
      go_wp2_with (first | (refine wpList_load_bl rfl 40 (.tmp 3) rfl _ rfl 40 _ _ HC2.out Tryd.underlying40 rfl info40 ?_) | (go_at_call 63; refine (fits_any _ _ _ _ _ _ _ hf1 hf2).mono ?_; rintro e w2 ⟨rfl, hb2⟩; rw [HX.out]; have HE3 := HE2.out.below hb2 HE2.out.lt; have HB3 := Lib.hid (HB2.out.trans (hb2.mono HB2.out.size)); have HF3 := HF2.out.below hb2 HF2.out.lt; clear hb2; have hE := HE3.cell; have hEf := HE3.fr; have hF := HF3.cell))
      refine judge_ret rfl rfl rfl (bl_store3 HE3 _ _ _) ⟨?_, below_store3 HB3.out (by omega) _ _ _⟩
      rw [HJ2.out]; rfl
    | true =>
      have HX := Lib.hid hx
      by_cases ht : r.t = d
      · have e2 : (r.t != d) = false := by simpa using ht
        have HJ2 : Hid (j = ⟨r.k, r.a, r.b, 0⟩) := by show _ = _; rw [← HJ.out, jdg, if_neg (by simpa using her), if_neg (by simp [hx]), if_neg (by simpa using ht)]
        clear her hx ht
        go_wp2_with (first | (refine wpList_load_bl rfl 40 (.tmp 3) rfl _ rfl 40 _ _ HC2.out Tryd.underlying40 rfl info40 ?_) | (go_at_call 63; refine (fits_any _ _ _ _ _ _ _ hf1 hf2).mono ?_; rintro e w2 ⟨rfl, hb2⟩; rw [HX.out]; have HE3 := HE2.out.below hb2 HE2.out.lt; have HB3 := Lib.hid (HB2.out.trans (hb2.mono HB2.out.size)); have HF3 := HF2.out.below hb2 HF2.out.lt; clear hb2; have hE := HE3.cell; have hEf := HE3.fr; have hF := HF3.cell))
        refine judge_ret rfl rfl rfl (bl_store3 HE3 _ _ _) ⟨?_, below_store3 HB3.out (by omega) _ _ _⟩
        rw [HJ2.out]; rfl
      · have e2 : (r.t != d) = true := by simpa using ht
        have HJ2 : Hid (j = ⟨0, 0, 0, 5⟩) := by show _ = _; rw [← HJ.out, jdg, if_neg (by simpa using her), if_neg (by simp [hx]), if_pos ht]
        clear her hx ht
        go_wp2_with (first | (refine wpList_load_bl rfl 40 (.tmp 3) rfl _ rfl 40 _ _ HC2.out Tryd.underlying40 rfl info40 ?_) | (go_at_call 63; refine (fits_any _ _ _ _ _ _ _ hf1 hf2).mono ?_; rintro e w2 ⟨rfl, hb2⟩; rw [HX.out]; have HE3 := HE2.out.below hb2 HE2.out.lt; have HB3 := Lib.hid (HB2.out.trans (hb2.mono HB2.out.size)); have HF3 := HF2.out.below hb2 HF2.out.lt; clear hb2; have hE := HE3.cell; have hEf := HE3.fr; have hF := HF3.cell))
        refine judge_ret rfl rfl rfl (bl_store3 HE3 _ _ _) ⟨?_, below_store3 HB3.out (by omega) _ _ _⟩
        rw [HJ2.out]; rfl
  · have e1 : (r.er != 0) = true := by simpa using her
    have HJ2 : Hid (j = ⟨0, 0, 0, 6⟩) := by show _ = _; rw [← HJ.out, jdg, if_pos her]
    clear her
    have hE := HE2.out.cell
    have hEf := HE2.out.fr
    go_wp2
    refine judge_ret rfl rfl rfl (bl_store3 HE2.out _ _ _) ⟨?_, below_store3 HB2.out (by omega) _ _ _⟩
    rw [HJ2.out]; rfl

end Go.Proofs.YtaipifjmkbcjjaaDoor

/- Walks: a port judges, and what has to be sent. -/
namespace Go.Proofs.YtaipifjmkbcjjaaDoor
open Go.RowKit Go.Sort

theorem results_32 {tm : Array Value} {W : World} {B : Nat} {k a b v u : Value} (h2 : tm.getD 6 undef = .pointer (some ⟨B, 0, none⟩)) (h3 : tm.getD 7 undef = v) (h4 : tm.getD 8 undef = u)
    (b2 : Bl B #[k, a, b] 43 W) : (results Tryd.f32 tm).run Tryd.prog W = .ok (.tuple #[.agg #[k, a, b], v, u]) W := by
  rw [Array.getD_eq_getD_getElem?] at h2 h3 h4
  have z0 := b2.cell 0
  have z1 := b2.cell 1
  have z2 := b2.cell 2
  simp only [List.getElem?_toArray, List.getElem?_cons_zero, List.getElem?_cons_succ] at z0 z1 z2
  simp [results, Tryd.results32, go_sem, h2, h3, h4, z0, z1, z2]

theorem judgeE_ret {R : Ending → World → Prop} {ac : Act} {W : World} {B : Nat} {k a b v u : Value} (h2 : ac.tmps.getD 6 undef = .pointer (some ⟨B, 0, none⟩)) (h3 : ac.tmps.getD 7 undef = v) (h4 : ac.tmps.getD 8 undef = u) (hd : ac.defers = [])
    (b2 : Bl B #[k, a, b] 43 W) (hR : R (.returned (.tuple #[.agg #[k, a, b], v, u])) W) : bodyPost Tryd.prog Tryd.f32 R .ret ac W :=
  bodyPost_ret (results_32 h2 h3 h4 b2) hd hR

/-- What 'Judge' answers: and which error. -/
def jdgE (f c p : Int) (L : List UInt8) : Jd × Int :=
  if vErr f c ≠ 0 then (⟨0, 0, 0, 0⟩, vErr f c) else if ¬ (0 ≤ p ∧ p < 24) then (⟨0, 0, 0, 0⟩, 2) else (jdg f c (1 + p / 8) (decS L), 0)

theorem vErr_bd {f c : Int} (h : vErr f c = 0) : 2 ≤ f ∧ f ≤ 64 := by unfold vErr at h; split at h <;> omega

set_option maxRecDepth 100000 in
set_option maxHeartbeats 1000000 in
theorem judgeE_any (f c p : Int) (x : Nat → Value) (s : ByteArray) (w : World) (hm : s.size ≤ maxLen) (hg : Glob w) (j : Jd) (er : Int) (hj : jdgE f c p s.data.toList = (j, er)) :
    Calls Tryd.prog 32 #[.agg (cfgA f c x), .int .i64 p, .string s] w fun e w' => e = .returned (.tuple #[.agg #[.int .i64 j.k, .int .i64 j.a, .int .i64 j.b], .int .i64 j.code, .int .i64 er]) ∧ Below w.heap.size w w' := by
  have HJ := Lib.hid hj
  clear hj
  have HC := Lib.hid ((Bl.new w (cfgA f c x) 40).alloc (.cells #[.int .i64 0, .int .i64 0, .int .i64 0] 43))
  have HE : Hid (Bl (w.heap.size + 1) #[.int .i64 0, .int .i64 0, .int .i64 0] 43 ((w.alloc (.cells (cfgA f c x) 40)).alloc (.cells #[.int .i64 0, .int .i64 0, .int .i64 0] 43))) := by
    have := Bl.new (w.alloc (.cells (cfgA f c x) 40)) #[.int .i64 0, .int .i64 0, .int .i64 0] 43
    rw [World.size_alloc] at this
    exact this
  have HB : Hid (Below w.heap.size w ((w.alloc (.cells (cfgA f c x) 40)).alloc (.cells #[.int .i64 0, .int .i64 0, .int .i64 0] 43))) := (below_alloc _ _).alloc (by simp) _
  by_cases hv : vErr f c = 0
  · have hvb := vErr_bd hv
    have HV := Lib.hid hv
    by_cases hp : 0 ≤ p ∧ p < 24
    · have HJ2 : Hid (jdg f c (1 + p / 8) (decS s.data.toList) = j ∧ er = 0) := by
        have := HJ.out
        rw [jdgE, if_neg (by simpa using hv), if_neg (by simpa using hp)] at this
        simp only [Prod.mk.injEq] at this
        exact ⟨this.1, this.2.symm⟩
      clear hv
      go_enter Tryd.func32, Tryd.ntmps32
      go_wp2_with (refine wpList_load_bl rfl 40 (.tmp 3) rfl _ rfl 40 _ _ HC.out Tryd.underlying40 rfl info40 ?_)
      refine (valid_any _ _ _ _).mono ?_
      rintro e w1 ⟨rfl, hb⟩
      rw [HV.out]
      have HC1 := Lib.hid (HC.out.below hb HC.out.lt)
      have HE1 := Lib.hid (HE.out.below hb HE.out.lt)
      have HB1 := Lib.hid (HB.out.trans (hb.mono HB.out.size))
      clear HC HE HB hb
      go_wp2_with fail
      refine (domain_ok _ _ hp.1 hp.2).mono ?_
      rintro e w2 ⟨rfl, rfl⟩
      go_wp2_with (refine wpList_load_bl rfl 40 (.tmp 3) rfl _ rfl 40 _ _ HC1.out Tryd.underlying40 rfl info40 ?_)
      refine (judge_any f c (1 + p / 8) x s _ hvb.1 hvb.2 hm (hg.next HB1.out) j HJ2.out.1).mono ?_
      rintro e w2 ⟨rfl, hb⟩
      have HE2 := Lib.hid ((HE1.out.below hb HE1.out.lt).alloc (.cells #[.int .i64 j.k, .int .i64 j.a, .int .i64 j.b] 43))
      have HB2 := Lib.hid ((HB1.out.trans (hb.mono HB1.out.size)).alloc (HB1.out.trans (hb.mono HB1.out.size)).size (.cells #[.int .i64 j.k, .int .i64 j.a, .int .i64 j.b] 43))
      clear HC1 HE1 HB1 hb
      have hE := HE2.out.cell
      have hEf := HE2.out.fr
      go_wp2
      refine judgeE_ret rfl rfl rfl rfl (bl_store3 HE2.out _ _ _) ⟨?_, below_store3 HB2.out (by omega) _ _ _⟩
      rw [HJ2.out.2]; rfl
    · have HJ2 : Hid (j = ⟨0, 0, 0, 0⟩ ∧ er = 2) := by
        have := HJ.out
        rw [jdgE, if_neg (by simpa using hv), if_pos hp] at this
        simp only [Prod.mk.injEq] at this
        exact ⟨this.1.symm, this.2.symm⟩
      clear hv
      have HP := Lib.hid hp
      clear hp
      go_enter Tryd.func32, Tryd.ntmps32
      go_wp2_with (refine wpList_load_bl rfl 40 (.tmp 3) rfl _ rfl 40 _ _ HC.out Tryd.underlying40 rfl info40 ?_)
      refine (valid_any _ _ _ _).mono ?_
      rintro e w1 ⟨rfl, hb⟩
      rw [HV.out]
      have HE1 := Lib.hid (HE.out.below hb HE.out.lt)
      have HB1 := Lib.hid (HB.out.trans (hb.mono HB.out.size))
      clear HC HE HB hb
      have hE := HE1.out.cell
      have hEf := HE1.out.fr
      go_wp2_with fail
      refine (domain_bad _ _ HP.out).mono ?_
      rintro e w2 ⟨rfl, rfl⟩
      go_wp2
      refine judgeE_ret rfl rfl rfl rfl (bl_store3 HE1.out _ _ _) ⟨?_, below_store3 HB1.out (by omega) _ _ _⟩
      rw [HJ2.out.1, HJ2.out.2]; rfl
  · have HJ2 : Hid (j = ⟨0, 0, 0, 0⟩ ∧ er = vErr f c) := by
      have := HJ.out
      rw [jdgE, if_pos hv] at this
      simp only [Prod.mk.injEq] at this
      exact ⟨this.1.symm, this.2.symm⟩
    have hne : (vErr f c != 0) = true := by simpa using hv
    clear hv
    go_enter Tryd.func32, Tryd.ntmps32
    go_wp2_with (refine wpList_load_bl rfl 40 (.tmp 3) rfl _ rfl 40 _ _ HC.out Tryd.underlying40 rfl info40 ?_)
    refine (valid_any _ _ _ _).mono ?_
    rintro e w1 ⟨rfl, hb⟩
    have HE1 := Lib.hid (HE.out.below hb HE.out.lt)
    have HB1 := Lib.hid (HB.out.trans (hb.mono HB.out.size))
    clear HC HE HB hb
    have hE := HE1.out.cell
    have hEf := HE1.out.fr
    go_wp2
    refine judgeE_ret rfl rfl rfl rfl (bl_store3 HE1.out _ _ _) ⟨?_, below_store3 HB1.out (by omega) _ _ _⟩
    rw [HJ2.out.1, HJ2.out.2]; rfl

/-- What 'Data' answers. -/
def dataS (f c p k a b : Int) : List UInt8 × Int :=
  if vErr f c ≠ 0 then ([], vErr f c) else if ¬ (0 ≤ p ∧ p < 24) then ([], 2) else if fitsB f c k a b = false then ([], 11) else encF (1 + p / 8) k a b

set_option maxRecDepth 100000 in
set_option maxHeartbeats 1000000 in
theorem data_any (f c p k a b : Int) (x : Nat → Value) (w : World) (hg : Glob w) (r : List UInt8) (er : Int) (hr : dataS f c p k a b = (r, er)) :
    Calls Tryd.prog 23 #[.agg (cfgA f c x), .int .i64 p, .agg #[.int .i64 k, .int .i64 a, .int .i64 b]] w fun e w' => e = .returned (.tuple #[.string (bs r), .int .i64 er]) ∧ Below w.heap.size w w' := by
  have HJ := Lib.hid hr
  clear hr
  have HC := Lib.hid ((Bl.new w (cfgA f c x) 40).alloc (.cells #[.int .i64 k, .int .i64 a, .int .i64 b] 43))
  have HE : Hid (Bl (w.heap.size + 1) #[.int .i64 k, .int .i64 a, .int .i64 b] 43 ((w.alloc (.cells (cfgA f c x) 40)).alloc (.cells #[.int .i64 k, .int .i64 a, .int .i64 b] 43))) := by
    have := Bl.new (w.alloc (.cells (cfgA f c x) 40)) #[.int .i64 k, .int .i64 a, .int .i64 b] 43
    rw [World.size_alloc] at this
    exact this
  have HB : Hid (Below w.heap.size w ((w.alloc (.cells (cfgA f c x) 40)).alloc (.cells #[.int .i64 k, .int .i64 a, .int .i64 b] 43))) := (below_alloc _ _).alloc (by simp) _
  by_cases hv : vErr f c = 0
  · have hvb := vErr_bd hv
    have HV := Lib.hid hv
    by_cases hp : 0 ≤ p ∧ p < 24
    · have HP := Lib.hid hp
      cases hx : fitsB f c k a b with
      | true =>
        have HX := Lib.hid hx
        have HJ2 : Hid (encF (1 + p / 8) k a b = (r, er)) := by
          have := HJ.out
          rw [dataS, if_neg (by simpa using hv), if_neg (by simpa using hp), if_neg (by simp [hx])] at this
          exact this
        clear hv hx
        go_enter Tryd.func23, Tryd.ntmps23
        go_wp2_with (refine wpList_load_bl rfl 40 (.tmp 3) rfl _ rfl 40 _ _ HC.out Tryd.underlying40 rfl info40 ?_)
        refine (valid_any _ _ _ _).mono ?_
        rintro e w1 ⟨rfl, hb⟩
        rw [HV.out]
        have HC1 := Lib.hid (HC.out.below hb HC.out.lt)
        have HE1 := Lib.hid (HE.out.below hb HE.out.lt)
        have HB1 := Lib.hid (HB.out.trans (hb.mono HB.out.size))
        clear HC HE HB hb
        have hE := HE1.out.cell
        go_wp2_with fail
        refine (domain_ok _ _ HP.out.1 HP.out.2).mono ?_
        rintro e w2 ⟨rfl, rfl⟩
        go_wp2_with (refine wpList_load_bl rfl 40 (.tmp 3) rfl _ rfl 40 _ _ HC1.out Tryd.underlying40 rfl info40 ?_)
        refine (fits_any _ _ _ _ _ _ _ hvb.1 hvb.2).mono ?_
        rintro e w2 ⟨rfl, hb⟩
        rw [HX.out]
        have HE2 := Lib.hid (HE1.out.below hb HE1.out.lt)
        have HB2 := Lib.hid (HB1.out.trans (hb.mono HB1.out.size))
        clear HC1 HE1 HB1 hb hE
        have hE := HE2.out.cell
        go_wp2_with fail
        refine (encode_any _ _ _ _ _ (hg.next HB2.out)).mono ?_
        rintro e w3 ⟨rfl, hb⟩
        go_wp2
        go_ret2
        refine ⟨?_, HB2.out.trans (hb.mono HB2.out.size)⟩
        rw [HJ2.out]; rfl
      | false =>
        have HX := Lib.hid hx
        have HJ2 : Hid (r = [] ∧ er = 11) := by
          have := HJ.out
          rw [dataS, if_neg (by simpa using hv), if_neg (by simpa using hp), if_pos hx] at this
          simp only [Prod.mk.injEq] at this
          exact ⟨this.1.symm, this.2.symm⟩
        clear hv hx
        go_enter Tryd.func23, Tryd.ntmps23
        go_wp2_with (refine wpList_load_bl rfl 40 (.tmp 3) rfl _ rfl 40 _ _ HC.out Tryd.underlying40 rfl info40 ?_)
        refine (valid_any _ _ _ _).mono ?_
        rintro e w1 ⟨rfl, hb⟩
        rw [HV.out]
        have HC1 := Lib.hid (HC.out.below hb HC.out.lt)
        have HE1 := Lib.hid (HE.out.below hb HE.out.lt)
        have HB1 := Lib.hid (HB.out.trans (hb.mono HB.out.size))
        clear HC HE HB hb
        have hE := HE1.out.cell
        go_wp2_with fail
        refine (domain_ok _ _ HP.out.1 HP.out.2).mono ?_
        rintro e w2 ⟨rfl, rfl⟩
        go_wp2_with (refine wpList_load_bl rfl 40 (.tmp 3) rfl _ rfl 40 _ _ HC1.out Tryd.underlying40 rfl info40 ?_)
        refine (fits_any _ _ _ _ _ _ _ hvb.1 hvb.2).mono ?_
        rintro e w2 ⟨rfl, hb⟩
        rw [HX.out]
        go_wp2
        go_ret2
        refine ⟨?_, HB1.out.trans (hb.mono HB1.out.size)⟩
        rw [HJ2.out.1, HJ2.out.2]; rfl
    · have HJ2 : Hid (r = [] ∧ er = 2) := by
        have := HJ.out
        rw [dataS, if_neg (by simpa using hv), if_pos hp] at this
        simp only [Prod.mk.injEq] at this
        exact ⟨this.1.symm, this.2.symm⟩
      clear hv
      have HP := Lib.hid hp
      clear hp
      go_enter Tryd.func23, Tryd.ntmps23
      go_wp2_with (refine wpList_load_bl rfl 40 (.tmp 3) rfl _ rfl 40 _ _ HC.out Tryd.underlying40 rfl info40 ?_)
      refine (valid_any _ _ _ _).mono ?_
      rintro e w1 ⟨rfl, hb⟩
      rw [HV.out]
      have HB1 := Lib.hid (HB.out.trans (hb.mono HB.out.size))
      clear HC HE HB hb
      go_wp2_with fail
      refine (domain_bad _ _ HP.out).mono ?_
      rintro e w2 ⟨rfl, rfl⟩
      go_wp2
      go_ret2
      refine ⟨?_, HB1.out⟩
      rw [HJ2.out.1, HJ2.out.2]; rfl
  · have HJ2 : Hid (r = [] ∧ er = vErr f c) := by
      have := HJ.out
      rw [dataS, if_pos hv] at this
      simp only [Prod.mk.injEq] at this
      exact ⟨this.1.symm, this.2.symm⟩
    have hne : (vErr f c != 0) = true := by simpa using hv
    clear hv
    go_enter Tryd.func23, Tryd.ntmps23
    go_wp2_with (refine wpList_load_bl rfl 40 (.tmp 3) rfl _ rfl 40 _ _ HC.out Tryd.underlying40 rfl info40 ?_)
    refine (valid_any _ _ _ _).mono ?_
    rintro e w1 ⟨rfl, hb⟩
    have HB1 := Lib.hid (HB.out.trans (hb.mono HB.out.size))
    clear HC HE HB hb
    go_wp2
    go_ret2
    refine ⟨?_, HB1.out⟩
    rw [HJ2.out.1, HJ2.out.2]; rfl

set_option maxHeartbeats 400000 in
theorem frame_any (t k a b : Int) (w : World) (hg : Glob w) :
    Calls Tryd.prog 41 #[.int .i64 t, .int .i64 k, .int .i64 a, .int .i64 b] w fun e w' => e = .returned (.string (bs (encF t k a b).1)) ∧ Below w.heap.size w w' := by
  go_enter Tryd.func41, Tryd.ntmps41
  go_wp2_with (go_at_call 48; refine (encode_any _ _ _ _ _ hg).mono ?_; rintro e w1 ⟨rfl, hb⟩)
  go_ret
  exact ⟨rfl, hb⟩

theorem cfg4 : vErr 4 2 = 0 := by decide

/-- Whether a text that arrives at a port is judged as wanted. -/
def judgedB (p : Int) (L : List UInt8) (k a b code : Int) : Bool :=
  let j := (jdgE 4 2 p L).1
  j.k == k && (j.a == a && j.b == b) && j.code == code && (jdgE 4 2 p L).2 == 0

set_option maxRecDepth 100000 in
set_option maxHeartbeats 400000 in
theorem judged_any (p k a b code : Int) (s : ByteArray) (w : World) (hm : s.size ≤ maxLen) (hg : Glob w) :
    Calls Tryd.prog 26 #[.int .i64 p, .string s, .agg #[.int .i64 k, .int .i64 a, .int .i64 b], .int .i64 code] w fun e w' => e = .returned (.bool (judgedB p s.data.toList k a b code)) ∧ Below w.heap.size w w' := by
  obtain ⟨j, er, hj⟩ : ∃ j er, jdgE 4 2 p s.data.toList = (j, er) := ⟨_, _, rfl⟩
  have HJ : Hid (judgedB p s.data.toList k a b code = (j.k == k && (j.a == a && j.b == b) && j.code == code && er == 0)) := by show _ = _; simp only [judgedB, hj]
  have Hj := Lib.hid hj
  clear hj
  have HE := Lib.hid (Bl.new w #[.int .i64 k, .int .i64 a, .int .i64 b] 43)
  have HB := Lib.hid (below_alloc w (.cells #[.int .i64 k, .int .i64 a, .int .i64 b] 43))
  go_enter Tryd.func26, Tryd.ntmps26
  go_wp2_with fail
  refine (four_any _).mono ?_
  rintro e w1 ⟨rfl, hb⟩
  have HE1 := Lib.hid (HE.out.below hb HE.out.lt)
  have HB1 := Lib.hid (HB.out.trans (hb.mono HB.out.size))
  clear HE HB hb
  go_wp2_with fail
  refine (judgeE_any 4 2 p x0 s _ hm (hg.next HB1.out) j er Hj.out).mono ?_
  rintro e w2 ⟨rfl, hb⟩
  have HE2 := Lib.hid ((HE1.out.below hb HE1.out.lt).alloc (.cells #[.int .i64 j.k, .int .i64 j.a, .int .i64 j.b] 43))
  have HB2 : Hid (∀ o, Below w.heap.size w (w2.alloc o)) := fun o => (HB1.out.trans (hb.mono HB1.out.size)).alloc (HB1.out.trans (hb.mono HB1.out.size)).size o
  clear HE1 HB1 hb
  have hE := HE2.out.cell
  go_wp2
  all_goals
    go_ret
    refine ⟨bool_ret ?_, HB2.out _⟩
    rw [HJ.out]
    simp [*]

set_option maxRecDepth 100000 in
set_option maxHeartbeats 400000 in
/-- The chapter's examples hold. -/
theorem awake_any (w : World) (hg : Glob w) : Calls Tryd.prog 22 #[] w fun e w' => e = .returned (.bool true) ∧ Below w.heap.size w w' := by
  have h1 : Hid (judgedB 3 (encF 1 1 3 1).1 1 3 1 0 = true) := by show _ = _; decide +kernel
  have h2 : Hid (judgedB 8 (encF 1 1 3 1).1 0 0 0 5 = true) := by show _ = _; decide +kernel
  have h3 : Hid (judgedB 3 (encF 1 1 4 1).1 0 0 0 6 = true) := by show _ = _; decide +kernel
  have m1 : (bs (encF 1 1 3 1).1).size ≤ maxLen := by rw [bs_size]; have := encF_len 1 1 3 1; unfold maxLen; omega
  have m2 : (bs (encF 1 1 4 1).1).size ≤ maxLen := by rw [bs_size]; have := encF_len 1 1 4 1; unfold maxLen; omega
  go_enter Tryd.func22, Tryd.ntmps22
  go_wp2_with fail
  refine (frame_any _ _ _ _ _ hg).mono ?_
  rintro e w1 ⟨rfl, b1⟩
  go_wp2_with fail
  refine (judged_any _ _ _ _ _ _ _ m1 (hg.next b1)).mono ?_
  rintro e w2 ⟨rfl, b2⟩
  rw [bs_list, h1.out]
  have B2 := Lib.hid (b1.trans (b2.mono b1.size))
  clear b1 b2
  go_wp2_with fail
  refine (frame_any _ _ _ _ _ (hg.next B2.out)).mono ?_
  rintro e w3 ⟨rfl, b1⟩
  have B3 := Lib.hid (B2.out.trans (b1.mono B2.out.size))
  clear B2 b1
  go_wp2_with fail
  refine (judged_any _ _ _ _ _ _ _ m1 (hg.next B3.out)).mono ?_
  rintro e w4 ⟨rfl, b1⟩
  rw [bs_list, h2.out]
  have B4 := Lib.hid (B3.out.trans (b1.mono B3.out.size))
  clear B3 b1
  go_wp2_with fail
  refine (frame_any _ _ _ _ _ (hg.next B4.out)).mono ?_
  rintro e w5 ⟨rfl, b1⟩
  have B5 := Lib.hid (B4.out.trans (b1.mono B4.out.size))
  clear B4 b1
  go_wp2_with fail
  refine (judged_any _ _ _ _ _ _ _ m2 (hg.next B5.out)).mono ?_
  rintro e w6 ⟨rfl, b1⟩
  rw [bs_list, h3.out]
  have B6 := Lib.hid (B5.out.trans (b1.mono B5.out.size))
  clear B5 b1
  go_wp2
  go_ret
  exact ⟨rfl, B6.out⟩

end Go.Proofs.YtaipifjmkbcjjaaDoor

/- Walks: the reference of ports: small functions. -/
namespace Go.Proofs.YtaipifjmkbcjjaaDoor
open Go.RowKit Go.Sort

theorem wrong_any (p : Int) (w : World) : Calls Tryd.prog 64 #[.int .i64 p] w fun e w' => e = .returned (.bool (!decide (0 ≤ p ∧ p < 24))) ∧ w = w' := by
  go_enter Tryd.func64, Tryd.ntmps64
  go_wp2
  all_goals
    go_ret
    refine ⟨bool_ret ?_, rfl⟩
    rw [Bool.eq_iff_iff]
    simp
    try omega

theorem odomain_ok (p : Int) (w : World) (h0 : 0 ≤ p) (h1 : p < 24) :
    Calls Tryd.prog 28 #[.int .i64 p] w fun e w' => e = .returned (.tuple #[.int .i64 (1 + p / 8), .int .i64 0]) ∧ w = w' := by
  have hd : (!decide (0 ≤ p ∧ p < 24)) = false := by simp; omega
  have hw := fun W => wrong_any p W
  rw [hd] at hw
  clear hd
  go_enter Tryd.func28, Tryd.ntmps28
  go_wp2_with (go_at_call 64; refine (hw _).mono ?_; rintro e w' ⟨rfl, rfl⟩)
  go_ret2
  exact ⟨rfl, rfl⟩
theorem odomain_bad (p : Int) (w : World) (h : ¬ (0 ≤ p ∧ p < 24)) :
    Calls Tryd.prog 28 #[.int .i64 p] w fun e w' => e = .returned (.tuple #[.int .i64 0, .int .i64 2]) ∧ w = w' := by
  have hd : (!decide (0 ≤ p ∧ p < 24)) = true := by simp; omega
  have hw := fun W => wrong_any p W
  rw [hd] at hw
  clear hd h
  go_enter Tryd.func28, Tryd.ntmps28
  go_wp2_with (go_at_call 64; refine (hw _).mono ?_; rintro e w' ⟨rfl, rfl⟩)
  go_ret2
  exact ⟨rfl, rfl⟩

set_option maxHeartbeats 400000 in
theorem ovalid_any (f c : Int) (x : Nat → Value) (w : World) :
    Calls Tryd.prog 65 #[.agg (cfgA f c x)] w fun e w' => e = .returned (.bool (decide (vErr f c = 0))) ∧ Below w.heap.size w w' := by
  go_enter Tryd.func65, Tryd.ntmps65
  go_wp2
  all_goals
    go_ret
    refine ⟨bool_ret ?_, (Below.refl _ _).alloc (Nat.le_refl _) _⟩
    unfold vErr
    split <;> simp <;> omega

set_option maxHeartbeats 2000000 in
theorem ofits_any (f c k a b : Int) (x : Nat → Value) (w : World) :
    Calls Tryd.prog 66 #[.agg (cfgA f c x), .agg #[.int .i64 k, .int .i64 a, .int .i64 b]] w fun e w' => e = .returned (.bool (fitsB f c k a b)) ∧ Below w.heap.size w w' := by
  go_enter Tryd.func66, Tryd.ntmps66
  go_wp2
  all_goals
    go_ret
    refine ⟨bool_ret ?_, ((Below.refl _ _).alloc (Nat.le_refl _) _).alloc (by simp) _⟩
    rw [Bool.eq_iff_iff]
    simp_all [fitsB, inB]
    try omega
end Go.Proofs.YtaipifjmkbcjjaaDoor

/- Walks: the event of a number. -/
namespace Go.Proofs.YtaipifjmkbcjjaaDoor
open Go.RowKit Go.Sort

def evM (m : Int) : Int × Int × Int :=
  if m % 4 = 0 then (1, m / 4 % 4, 1 + m / 16 % 2) else if m % 4 = 1 then (2, 1 + m / 4 % 2, m / 8 % 4) else if m % 4 = 2 then (3, 1 + m / 4 % 99, 0) else (4, 1 + m / 4 % 2, m / 8 % 4)

theorem evM_fits (m : Int) : fitsB 4 2 (evM m).1 (evM m).2.1 (evM m).2.2 = true := by
  unfold evM fitsB inB
  split
  · simp; omega
  · split
    · simp; omega
    · split
      · simp; omega
      · simp; omega

set_option maxHeartbeats 400000 in
theorem event_of (n : Int) (w : World) :
    Calls Tryd.prog 25 #[.int .i64 n] w fun e w' => e = .returned (.agg #[.int .i64 (evM (n % 65536)).1, .int .i64 (evM (n % 65536)).2.1, .int .i64 (evM (n % 65536)).2.2]) ∧ Below w.heap.size w w' := by
  have hp0 := Int.emod_nonneg n (show (65536 : Int) ≠ 0 by decide)
  have hp1 := Int.emod_lt_of_pos n (show (0 : Int) < 65536 by decide)
  have hmo : ∀ W, Calls Tryd.prog 18 #[.int .i64 n, .int .i64 65536] W fun e w' => e = .returned (.int .i64 (n % 65536)) ∧ W = w' := fun W => mod_any n 65536 W (by decide) (by decide)
  generalize n % 65536 = m at *
  go_enter Tryd.func25, Tryd.ntmps25
  go_wp2_with (first
      | (go_at_call 18; refine (hmo _).mono ?_; rintro e w1 ⟨rfl, rfl⟩)
      | fail)
  all_goals
    refine bodyPost_ret (v := .agg #[.int .i64 (evM m).1, .int .i64 (evM m).2.1, .int .i64 (evM m).2.2]) ?_ rfl ⟨rfl, below_alloc _ _⟩
    unfold evM
    simp only [beq_iff_eq, beq_eq_false_iff_ne, ne_eq] at *
    simp [results, Tryd.results25, go_sem, *]
end Go.Proofs.YtaipifjmkbcjjaaDoor
