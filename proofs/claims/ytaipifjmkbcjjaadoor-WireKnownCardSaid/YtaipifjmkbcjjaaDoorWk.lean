/- Walks: WireKnown. -/
import Derived.Test.YtaipifjmkbcjjaaDoorFy
import Derived.Deep.CutRange
namespace Go.Proofs.YtaipifjmkbcjjaaDoor
open Go.RowKit Go.Sort

theorem built_sees (w : World) (f g : Fr) (c : Nat) : SeesF (w.alloc (.cells (f.c ++ g.c) 68)) (.slice (some ⟨w.heap.size, 0, none⟩) 2 c) [f, g] := by
  refine ⟨_, c, rfl, fun _ => ⟨w.heap.size, 0, rfl, fun k j u hu hk => ?_⟩⟩
  have hj : j < 4 := by
    obtain ⟨hj, -⟩ := Array.getElem?_eq_some_iff.1 hu
    simpa using hj
  rw [(Bl.new w (f.c ++ g.c) 68).cell]
  have h := flat_at [f, g] k j u hu hk
  have e : (f.c ++ g.c).toList = flat [f, g] := by simp [flat]
  rw [← e] at h
  rw [show 0 + k * 4 + j = k * 4 + j by omega]
  simpa using h

/-- The stream of the chapter's example. -/
def knownL : List UInt8 := [120] ++ formH ++ [60] ++ formH ++ [62]
theorem known_items : framesOf (items knownL) = [frH, frH] ∧ junkOf (items knownL) = 3 := by decide +kernel

theorem bsz (l : Array UInt8) : (⟨l⟩ : ByteArray).size = l.size := rfl

set_option maxRecDepth 100000 in
set_option maxHeartbeats 4000000 in
theorem WireKnown_any (w : World) (hg : Glob w) : Calls Tryd.prog 14 #[] w fun e w' => e = .returned (.bool true) ∧ Below w.heap.size w w' := by
  have haw : ∀ W, Below w.heap.size w W → Calls Tryd.prog 42 #[] W _ := fun W hb => awake06 W (hg.next hb)
  have hfo := form_any w hg
  have hle : ∀ W, Below w.heap.size w W → Calls Tryd.prog 51 #[.agg #[.int .i64 3, .int .i64 3, .int .i64 99, .int .i64 0]] W fun e w' => e = .returned (.tuple #[.int .i64 11, .int .i64 0]) ∧ Below W.heap.size W w' := fun W hb => by
    have h := length_any 3 3 99 0 W (hg.next hb)
    have e1 : ((encF 3 3 99 0).1.length : Int) = 11 := by decide +kernel
    have e2 : (encF 3 3 99 0).2 = 0 := by decide +kernel
    rw [e1, e2] at h; exact h
  have hft : ∀ (s : ByteArray) (er at' : Int) W, Below w.heap.size w W → s.size ≤ 100 → faultB s.data.toList er at' = true → Calls Tryd.prog 52 #[.string s, .int .i64 er, .int .i64 at'] W fun e w' => e = .returned (.bool true) ∧ Below W.heap.size W w' := fun s er at' W hb hs hf => by
    have h := faulty_any s er at' W (hg.next hb) (by unfold maxLen; omega)
    rw [hf] at h; exact h
  have hsz : (bs formH).size = 10 := by rw [bs_size]; decide +kernel
  have f1 : Hid (faultB ((bs formH).extract 0 9).data.toList 3 9 = true) := Lib.hid (by decide +kernel)
  have f2 : Hid (faultB (bs formH ++ ⟨#[32]⟩).data.toList 3 10 = true) := Lib.hid (by decide +kernel)
  have f3 : Hid (faultB (⟨#[]⟩ : ByteArray).data.toList 3 0 = true) := Lib.hid (by decide +kernel)
  have f4 : Hid (faultB ((⟨#[60, 80, 104, 48]⟩ : ByteArray) ++ (bs formH).extract 3 10).data.toList 3 4 = true) := Lib.hid (by decide +kernel)
  have f5 : Hid (faultB ((⟨#[60, 88]⟩ : ByteArray) ++ (bs formH).extract 2 10).data.toList 3 1 = true) := Lib.hid (by decide +kernel)
  have f6 : Hid (faultB (⟨#[49, 50, 51, 52, 53, 54, 55, 56, 57, 48, 49, 50, 51, 52, 53, 54, 55]⟩ : ByteArray).data.toList 4 16 = true) := Lib.hid (by decide +kernel)
  have hsc : ∀ W, Below w.heap.size w W → Calls Tryd.prog 45 #[.string (⟨#[120]⟩ ++ bs formH ++ ⟨#[60]⟩ ++ bs formH ++ ⟨#[62]⟩)] W fun e w' => ∃ v, e = .returned (.tuple #[v, .int .i64 3]) ∧ w'.ownsRow (W.heap.size + 5) 68 4 v 2 (flat [frH, frH]) ∧ Below W.heap.size W w' := fun W hb => by
    have e : (⟨#[120]⟩ : ByteArray) ++ bs formH ++ ⟨#[60]⟩ ++ bs formH ++ ⟨#[62]⟩ = bs knownL := by
      unfold knownL
      rw [← bs_append, ← bs_append, ← bs_append, ← bs_append]; rfl
    rw [e]
    have h := scan_any knownL (by decide +kernel) W (hg.next hb)
    rw [known_items.1, known_items.2] at h
    exact h
  generalize bs formH = s at *
  have HB0 := Lib.hid (Below.refl w.heap.size w)
  go_enter Tryd.func14, Tryd.ntmps14
  go_upto_region 5 with (first
    | (go_at_call 50; refine hfo.mono ?_; rintro e w1 ⟨rfl, hb1⟩; have HB1 := Lib.hid (HB0.out.trans hb1); clear hb1)
    | (go_at_call 51; refine (hle _ HB1.out).mono ?_; rintro e w2 ⟨rfl, hb2⟩; have HB2 := Lib.hid (HB1.out.trans (hb2.mono HB1.out.size)); clear hb2)
    | fail)
  clear hfo hle
  have HB := HB2
  clear HB1 HB2 HB0
  go_upto_region 7 with (first
    | (go_at_call 52; refine (hft _ _ _ _ HB.out (by first | (simp [hsz, bsz]; done) | (simp [hsz, bsz]; omega)) (by first | with_reducible exact f1.out | with_reducible exact f2.out | with_reducible exact f3.out | with_reducible exact f4.out | with_reducible exact f5.out | with_reducible exact f6.out | exact f3.out | exact f6.out)).mono ?_; rintro e w' ⟨rfl, hb'⟩; replace HB := Lib.hid (HB.out.trans (hb'.mono HB.out.size)); clear hb')
    | fail)
  clear hft f1 f2 f3 f4 f5 f6
  go_upto_region 8 with (first
    | (go_at_call 45; refine (hsc _ HB.out).mono ?_; rintro e w3 ⟨v, rfl, ho, hb'⟩; replace HB := Lib.hid (HB.out.trans (hb'.mono HB.out.size)); clear hb')
    | fail)
  clear hsc
  have HO := Lib.hid ho
  clear ho
  generalize w'.heap.size + 5 = base at *
  go_upto_region 10 with (first
    | (go_at_call 53; refine (hall_any _).mono ?_; rintro e w4 ⟨rfl, hb'⟩; replace HB := Lib.hid (HB.out.trans (hb'.mono HB.out.size)); replace HO := Lib.hid (HO.out.kept (grown_below (r := none) hb') (by cases v.ownBlock <;> simp)); clear hb')
    | fail)
  have HA : Hid (Bl w4.heap.size #[.int .i64 0, .int .i64 1, .int .i64 3, .int .i64 1] 68 (w4.alloc (.cells #[.int .i64 0, .int .i64 1, .int .i64 3, .int .i64 1] 68))) := Bl.new _ _ _
  replace HB : Hid (Below w.heap.size w (w4.alloc (.cells #[.int .i64 0, .int .i64 1, .int .i64 3, .int .i64 1] 68))) := HB.out.alloc HB.out.size _
  replace HO : Hid (World.ownsRow (w4.alloc (.cells #[.int .i64 0, .int .i64 1, .int .i64 3, .int .i64 1] 68)) base 68 4 v 2 (flat [frH, frH])) := HO.out.alloc _
  generalize w4.alloc (.cells #[.int .i64 0, .int .i64 1, .int .i64 3, .int .i64 1] 68) = WA at *
  generalize w4.heap.size = A at *
  go_upto_region 12 with (first
    | (go_at_call 53; refine (hall_any _).mono ?_; rintro e w5 ⟨rfl, hb'⟩; replace HB := Lib.hid (HB.out.trans (hb'.mono HB.out.size)); replace HO := Lib.hid (HO.out.kept (grown_below (r := none) hb') (by cases v.ownBlock <;> simp)); replace HA := Lib.hid (HA.out.below hb' HA.out.lt); clear hb')
    | fail)
  have HBB : Hid (Bl w5.heap.size #[.int .i64 1, .int .i64 5, .int .i64 3, .int .i64 1] 68 (w5.alloc (.cells #[.int .i64 1, .int .i64 5, .int .i64 3, .int .i64 1] 68))) := Bl.new _ _ _
  replace HB : Hid (Below w.heap.size w (w5.alloc (.cells #[.int .i64 1, .int .i64 5, .int .i64 3, .int .i64 1] 68))) := HB.out.alloc HB.out.size _
  replace HO : Hid (World.ownsRow (w5.alloc (.cells #[.int .i64 1, .int .i64 5, .int .i64 3, .int .i64 1] 68)) base 68 4 v 2 (flat [frH, frH])) := HO.out.alloc _
  replace HA := Lib.hid (HA.out.alloc (.cells #[.int .i64 1, .int .i64 5, .int .i64 3, .int .i64 1] 68))
  generalize w5.alloc (.cells #[.int .i64 1, .int .i64 5, .int .i64 3, .int .i64 1] 68) = WB at *
  generalize w5.heap.size = B at *
  go_upto_region 14 with (first
    | (go_at_call 53; refine (hall_any _).mono ?_; rintro e w6 ⟨rfl, hb'⟩; replace HB := Lib.hid (HB.out.trans (hb'.mono HB.out.size)); replace HO := Lib.hid (HO.out.kept (grown_below (r := none) hb') (by cases v.ownBlock <;> simp)); replace HA := Lib.hid (HA.out.below hb' HA.out.lt); replace HBB := Lib.hid (HBB.out.below hb' HBB.out.lt); clear hb')
    | fail)
  have HC : Hid (Bl w6.heap.size #[.int .i64 1, .int .i64 1, .int .i64 100, .int .i64 1] 68 (w6.alloc (.cells #[.int .i64 1, .int .i64 1, .int .i64 100, .int .i64 1] 68))) := Bl.new _ _ _
  replace HB : Hid (Below w.heap.size w (w6.alloc (.cells #[.int .i64 1, .int .i64 1, .int .i64 100, .int .i64 1] 68))) := HB.out.alloc HB.out.size _
  replace HO : Hid (World.ownsRow (w6.alloc (.cells #[.int .i64 1, .int .i64 1, .int .i64 100, .int .i64 1] 68)) base 68 4 v 2 (flat [frH, frH])) := HO.out.alloc _
  replace HA := Lib.hid (HA.out.alloc (.cells #[.int .i64 1, .int .i64 1, .int .i64 100, .int .i64 1] 68))
  replace HBB := Lib.hid (HBB.out.alloc (.cells #[.int .i64 1, .int .i64 1, .int .i64 100, .int .i64 1] 68))
  generalize w6.alloc (.cells #[.int .i64 1, .int .i64 1, .int .i64 100, .int .i64 1] 68) = WC at *
  generalize w6.heap.size = C at *
  have q1 : chk 0 1 3 1 = 2 := by decide
  have q2 : chk 1 5 3 1 = 11 := by decide
  have q3 : chk 1 1 100 1 = 2 := by decide
  go_wp2_with (first
    | (go_at_call 53; refine (hall_any _).mono ?_; rintro e w7 ⟨rfl, hb'⟩; replace HB := Lib.hid (HB.out.trans (hb'.mono HB.out.size)); replace HO := Lib.hid (HO.out.kept (grown_below (r := none) hb') (by cases v.ownBlock <;> simp)); replace HA := Lib.hid (HA.out.below hb' HA.out.lt); replace HBB := Lib.hid (HBB.out.below hb' HBB.out.lt); replace HC := Lib.hid (HC.out.below hb' HC.out.lt); clear hb')
    | (go_at_call 47; refine (sameFrames_sees (own_sees (fs := [frH, frH]) (HO.out.alloc _)) (built_sees _ frH frH 2) (by decide)).mono ?_; rintro e w8 ⟨rfl, hb'⟩; replace HB := Lib.hid ((HB.out.alloc HB.out.size _).trans (hb'.mono (HB.out.alloc HB.out.size _).size)); replace HA := Lib.hid ((HA.out.alloc _).below hb' (HA.out.alloc _).lt); replace HBB := Lib.hid ((HBB.out.alloc _).below hb' (HBB.out.alloc _).lt); replace HC := Lib.hid ((HC.out.alloc _).below hb' (HC.out.alloc _).lt); have cA := HA.out.cell; have cB := HBB.out.cell; have cC := HC.out.cell; clear hb')
    | (go_at_call 54; refine (check_any _ _ _ _ _).mono ?_; rintro e w9 ⟨rfl, hb'⟩; replace HB := Lib.hid (HB.out.trans (hb'.mono HB.out.size)); replace HA := Lib.hid (HA.out.below hb' HA.out.lt); replace HBB := Lib.hid (HBB.out.below hb' HBB.out.lt); replace HC := Lib.hid (HC.out.below hb' HC.out.lt); clear cA cB cC; have cA := HA.out.cell; have cB := HBB.out.cell; have cC := HC.out.cell; clear hb')
    | (go_at_call 42; refine (haw _ HB.out).mono ?_; rintro e w10 ⟨rfl, hb'⟩; replace HB := Lib.hid (HB.out.trans (hb'.mono HB.out.size)); clear hb')
    | fail)
  go_ret
  exact ⟨by first | rfl | trivial, HB.out⟩
end Go.Proofs.YtaipifjmkbcjjaaDoor
