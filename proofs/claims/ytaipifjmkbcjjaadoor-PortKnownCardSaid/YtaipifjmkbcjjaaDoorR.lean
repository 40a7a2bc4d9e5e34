/- Walks: a port judges. -/
import Derived.Test.YtaipifjmkbcjjaaDoorN
namespace Go.Proofs.YtaipifjmkbcjjaaDoor
open Go.RowKit Go.Sort

theorem decode_fields (s : ByteArray) (w : World) (hm : s.size ≤ maxLen) (hg : Glob w) (d : DecR) (hd : decS s.data.toList = d) :
    Calls Tryd.prog 43 #[.string s] w fun e w' => e = .returned (.tuple #[.agg #[.int .i64 d.t, .int .i64 d.k, .int .i64 d.a, .int .i64 d.b], .agg #[.int .i64 d.er, .int .i64 d.at']]) ∧ Below w.heap.size w w' := by
  subst hd; exact decode_any s w hm hg

/-- What arrives at a port of a domain: an event (kind, A, B) and a code. -/
structure Jd where
  k : Int
  a : Int
  b : Int
  code : Int
def jdg (f c d : Int) (r : DecR) : Jd :=
  if r.er ≠ 0 then ⟨0, 0, 0, 6⟩ else if fitsB f c r.k r.a r.b = false then ⟨0, 0, 0, 6⟩ else if r.t ≠ d then ⟨0, 0, 0, 5⟩ else ⟨r.k, r.a, r.b, 0⟩

theorem results_67 {tm : Array Value} {W : World} {B : Nat} {k a b v : Value} (h2 : tm.getD 6 undef = .pointer (some ⟨B, 0, none⟩)) (h3 : tm.getD 7 undef = v)
    (b2 : Bl B #[k, a, b] 43 W) : (results Tryd.f67 tm).run Tryd.prog W = .ok (.tuple #[.agg #[k, a, b], v]) W := by
  rw [Array.getD_eq_getD_getElem?] at h2 h3
  have z0 := b2.cell 0
  have z1 := b2.cell 1
  have z2 := b2.cell 2
  simp only [List.getElem?_toArray, List.getElem?_cons_zero, List.getElem?_cons_succ] at z0 z1 z2
  simp [results, Tryd.results67, go_sem, h2, h3, z0, z1, z2]

theorem judge_ret {R : Ending → World → Prop} {ac : Act} {W : World} {B : Nat} {k a b v : Value} (h2 : ac.tmps.getD 6 undef = .pointer (some ⟨B, 0, none⟩)) (h3 : ac.tmps.getD 7 undef = v) (hd : ac.defers = [])
    (b2 : Bl B #[k, a, b] 43 W) (hR : R (.returned (.tuple #[.agg #[k, a, b], v])) W) : bodyPost Tryd.prog Tryd.f67 R .ret ac W :=
  bodyPost_ret (results_67 h2 h3 b2) hd hR

theorem bl_store3 {B : Nat} {w : World} {k0 a0 b0 : Value} (h : Bl B #[k0, a0, b0] 43 w) (k a b : Value) :
    Bl B #[k, a, b] 43 (((w.setCell ⟨B, 0, none⟩ k).setCell ⟨B, 1, none⟩ a).setCell ⟨B, 2, none⟩ b) := ((h.set 0 k).set 1 a).set 2 b
theorem below_store3 {B : Nat} {w0 w : World} (h : Below w0.heap.size w0 w) (hB : w0.heap.size ≤ B) (k a b : Value) :
    Below w0.heap.size w0 (((w.setCell ⟨B, 0, none⟩ k).setCell ⟨B, 1, none⟩ a).setCell ⟨B, 2, none⟩ b) := ((h.setCell hB k).setCell hB a).setCell hB b

set_option maxRecDepth 100000 in
set_option maxHeartbeats 1000000 in
theorem judge_any (f c d : Int) (x : Nat → Value) (s : ByteArray) (w : World) (hf1 : 2 ≤ f) (hf2 : f ≤ 64) (hm : s.size ≤ maxLen) (hg : Glob w) (j : Jd) (hj : jdg f c d (decS s.data.toList) = j) :
    Calls Tryd.prog 67 #[.agg (cfgA f c x), .int .i64 d, .string s] w fun e w' => e = .returned (.tuple #[.agg #[.int .i64 j.k, .int .i64 j.a, .int .i64 j.b], .int .i64 j.code]) ∧ Below w.heap.size w w' := by
  obtain ⟨r, hr⟩ : ∃ r, decS s.data.toList = r := ⟨_, rfl⟩
  rw [hr] at hj
  have HR := Lib.hid hr
  clear hr
  have HJ := Lib.hid hj
  clear hj
  have HC := Lib.hid ((Bl.new w (cfgA f c x) 40).alloc (.cells #[.int .i64 0, .int .i64 0, .int .i64 0] 43))
  have HE : Hid (Bl (w.heap.size + 1) #[.int .i64 0, .int .i64 0, .int .i64 0] 43 ((w.alloc (.cells (cfgA f c x) 40)).alloc (.cells #[.int .i64 0, .int .i64 0, .int .i64 0] 43))) := by
    have := Bl.new (w.alloc (.cells (cfgA f c x) 40)) #[.int .i64 0, .int .i64 0, .int .i64 0] 43
    rw [World.size_alloc] at this
    exact this
  have HB : Hid (Below w.heap.size w ((w.alloc (.cells (cfgA f c x) 40)).alloc (.cells #[.int .i64 0, .int .i64 0, .int .i64 0] 43))) := (below_alloc _ _).alloc (by simp) _
  go_enter Tryd.func67, Tryd.ntmps67
  go_wp2_with fail
  generalize (w.alloc (.cells (cfgA f c x) 40)).alloc (.cells #[.int .i64 0, .int .i64 0, .int .i64 0] 43) = W at *
  refine (decode_fields _ _ hm (hg.next HB.out) r HR.out).mono ?_
  rintro e w1 ⟨rfl, hb⟩
  have HC1 := (HC.out.below hb HC.out.lt)
  have HE1 := (HE.out.below hb HE.out.lt)
  have HB1 := HB.out.trans (hb.mono HB.out.size)
  clear HC HE HB hb
  have HC2 := Lib.hid ((HC1.alloc (.cells #[.int .i64 r.t, .int .i64 r.k, .int .i64 r.a, .int .i64 r.b] 68)).alloc (.cells #[.int .i64 r.er, .int .i64 r.at'] 70))
  have HE2 := Lib.hid ((HE1.alloc (.cells #[.int .i64 r.t, .int .i64 r.k, .int .i64 r.a, .int .i64 r.b] 68)).alloc (.cells #[.int .i64 r.er, .int .i64 r.at'] 70))
  have HF2 := Lib.hid ((Bl.new w1 #[.int .i64 r.t, .int .i64 r.k, .int .i64 r.a, .int .i64 r.b] 68).alloc (.cells #[.int .i64 r.er, .int .i64 r.at'] 70))
  have HG2 : Hid (Bl (w1.heap.size + 1) #[.int .i64 r.er, .int .i64 r.at'] 70 ((w1.alloc (.cells #[.int .i64 r.t, .int .i64 r.k, .int .i64 r.a, .int .i64 r.b] 68)).alloc (.cells #[.int .i64 r.er, .int .i64 r.at'] 70))) := by
    have := Bl.new (w1.alloc (.cells #[.int .i64 r.t, .int .i64 r.k, .int .i64 r.a, .int .i64 r.b] 68)) #[.int .i64 r.er, .int .i64 r.at'] 70
    rw [World.size_alloc] at this
    exact this
  have HB2 := Lib.hid ((HB1.alloc HB1.size (.cells #[.int .i64 r.t, .int .i64 r.k, .int .i64 r.a, .int .i64 r.b] 68)).alloc (by have := HB1.size; simp; omega) (.cells #[.int .i64 r.er, .int .i64 r.at'] 70))
  clear HC1 HE1 HB1
  by_cases her : r.er = 0
  · have e1 : (r.er != 0) = false := by simpa using her
    cases hx : fitsB f c r.k r.a r.b with
    | false =>
      have HX := Lib.hid hx
      have HJ2 : Hid (j = ⟨0, 0, 0, 6⟩) := by show _ = _; rw [← HJ.out, jdg, if_neg (by simpa using her), if_pos hx]
      clear her hx
      go_wp2_with (first | (refine wpList_load_bl rfl 40 (.tmp 3) rfl _ rfl 40 _ _ HC2.out Tryd.underlying40 rfl info40 ?_) | (go_at_call 63; refine (fits_any _ _ _ _ _ _ _ hf1 hf2).mono ?_; rintro e w2 ⟨rfl, hb2⟩; rw [HX.out]; have HE3 := HE2.out.below hb2 HE2.out.lt; have HB3 := Lib.hid (HB2.out.trans (hb2.mono HB2.out.size)); have HF3 := HF2.out.below hb2 HF2.out.lt; clear hb2; have hE := HE3.cell; have hEf := HE3.fr; have hF := HF3.cell))
      refine judge_ret rfl rfl rfl (bl_store3 HE3 _ _ _) ⟨?_, below_store3 HB3.out (by omega) _ _ _⟩
      rw [HJ2.out]; rfl
    | true =>
      have HX := Lib.hid hx
      by_cases ht : r.t = d
      · have e2 : (r.t != d) = false := by simpa using ht
        have HJ2 : Hid (j = ⟨r.k, r.a, r.b, 0⟩) := by show _ = _; rw [← HJ.out, jdg, if_neg (by simpa using her), if_neg (by simp [hx]), if_neg (by simpa using ht)]
        clear her hx ht
        go_wp2_with (first | (refine wpList_load_bl rfl 40 (.tmp 3) rfl _ rfl 40 _ _ HC2.out Tryd.underlying40 rfl info40 ?_) | (go_at_call 63; refine (fits_any _ _ _ _ _ _ _ hf1 hf2).mono ?_; rintro e w2 ⟨rfl, hb2⟩; rw [HX.out]; have HE3 := HE2.out.below hb2 HE2.out.lt; have HB3 := Lib.hid (HB2.out.trans (hb2.mono HB2.out.size)); have HF3 := HF2.out.below hb2 HF2.out.lt; clear hb2; have hE := HE3.cell; have hEf := HE3.fr; have hF := HF3.cell))
        refine judge_ret rfl rfl rfl (bl_store3 HE3 _ _ _) ⟨?_, below_store3 HB3.out (by omega) _ _ _⟩
        rw [HJ2.out]; rfl
      · have e2 : (r.t != d) = true := by simpa using ht
        have HJ2 : Hid (j = ⟨0, 0, 0, 5⟩) := by show _ = _; rw [← HJ.out, jdg, if_neg (by simpa using her), if_neg (by simp [hx]), if_pos ht]
        clear her hx ht
        go_wp2_with (first | (refine wpList_load_bl rfl 40 (.tmp 3) rfl _ rfl 40 _ _ HC2.out Tryd.underlying40 rfl info40 ?_) | (go_at_call 63; refine (fits_any _ _ _ _ _ _ _ hf1 hf2).mono ?_; rintro e w2 ⟨rfl, hb2⟩; rw [HX.out]; have HE3 := HE2.out.below hb2 HE2.out.lt; have HB3 := Lib.hid (HB2.out.trans (hb2.mono HB2.out.size)); have HF3 := HF2.out.below hb2 HF2.out.lt; clear hb2; have hE := HE3.cell; have hEf := HE3.fr; have hF := HF3.cell))
        refine judge_ret rfl rfl rfl (bl_store3 HE3 _ _ _) ⟨?_, below_store3 HB3.out (by omega) _ _ _⟩
        rw [HJ2.out]; rfl
  · have e1 : (r.er != 0) = true := by simpa using her
    have HJ2 : Hid (j = ⟨0, 0, 0, 6⟩) := by show _ = _; rw [← HJ.out, jdg, if_pos her]
    clear her
    have hE := HE2.out.cell
    have hEf := HE2.out.fr
    go_wp2
    refine judge_ret rfl rfl rfl (bl_store3 HE2.out _ _ _) ⟨?_, below_store3 HB2.out (by omega) _ _ _⟩
    rw [HJ2.out]; rfl

end Go.Proofs.YtaipifjmkbcjjaaDoor
