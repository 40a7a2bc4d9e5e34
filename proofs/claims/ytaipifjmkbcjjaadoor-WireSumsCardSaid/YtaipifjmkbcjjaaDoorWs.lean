/- Walks: WireScans. -/
import Derived.Test.YtaipifjmkbcjjaaDoorOs
import Derived.Test.YtaipifjmkbcjjaaDoorSf
import Derived.Test.YtaipifjmkbcjjaaDoorAw
namespace Go.Proofs.YtaipifjmkbcjjaaDoor
open Go.RowKit Go.Sort

theorem items_len : ∀ (m : Nat) (L : List UInt8), L.length ≤ m → (items L).length ≤ L.length := by
  intro m
  induction m with
  | zero => intro L h; obtain rfl := List.length_eq_zero_iff.1 (by omega : L.length = 0); exact Nat.le_refl _
  | succ m ih =>
    intro L h
    rcases Nat.eq_zero_or_pos L.length with h0 | h0
    · obtain rfl := List.length_eq_zero_iff.1 h0; exact Nat.le_refl _
    · have hp := oneS_pos L h0
      rw [items_cons L h0, List.length_cons]
      have := ih (L.drop (oneS L).2) (by rw [List.length_drop]; omega)
      rw [List.length_drop] at this
      omega

set_option maxHeartbeats 2000000 in
theorem WireScans_any (s : ByteArray) (w : World) (hg : Glob w) (hm : s.size ≤ maxLen) :
    Calls Tryd.prog 11 #[.string s] w fun e w' => e = .returned (.bool true) ∧ Below w.heap.size w w' := by
  have haw : ∀ W, Below w.heap.size w W → Calls Tryd.prog 42 #[] W _ := fun W hb => awake06 W (hg.next hb)
  have HB0 := Lib.hid (Below.refl w.heap.size w)
  by_cases h600 : (600 : Int) < (s.size : Int)
  · have h600' : decide ((600 : Int) < (s.size : Int)) = true := by simpa using h600
    clear h600
    go_enter Tryd.func11, Tryd.ntmps11
    go_wp2_with (first
      | (go_at_call 42; refine (haw _ HB0.out).mono ?_; rintro e w6 ⟨rfl, hb6⟩)
      | fail)
    go_ret
    exact ⟨by first | rfl | trivial, hb6⟩
  · have h600' : decide ((600 : Int) < (s.size : Int)) = false := by simpa using h600
    have hL : s.data.toList.length ≤ 600 := by simp; omega
    have hsc := scan_any s.data.toList (by omega) w hg
    have hos := fun W => oscan_any s.data.toList (by omega) W
    rw [bs_of] at hsc hos
    have hflen : (framesOf (items s.data.toList)).length ≤ maxLen := by have h1 := framesOf_len (items s.data.toList); have h2 := items_len s.data.toList.length s.data.toList (Nat.le_refl _); unfold maxLen; omega
    generalize items s.data.toList = xs at *
    clear h600
    go_enter Tryd.func11, Tryd.ntmps11
    go_wp2_with (first
      | (go_at_call 45; refine hsc.mono ?_; rintro e w1 ⟨v1, rfl, hown1, hb1⟩; have HB1 := Lib.hid (HB0.out.trans hb1); have HO1 := Lib.hid hown1; clear hb1 hown1)
      | (go_at_call 46; refine (hos _).mono ?_; rintro e w2 ⟨v2, rfl, hown2, hb2⟩; have HB2 := Lib.hid (HB1.out.trans (hb2.mono HB1.out.size)); have HO2 := Lib.hid hown2; have HO12 := Lib.hid (HO1.out.kept (grown_below (r := none) hb2) (by cases v1.ownBlock <;> simp)); clear hb2 hown2)
      | (go_at_call 47; refine (sameFrames_sees (own_sees HO12.out) (own_sees HO2.out) hflen).mono ?_; rintro e w3 ⟨rfl, hb3⟩; have HB3 := Lib.hid (HB2.out.trans (hb3.mono HB2.out.size)); clear hb3)
      | (go_at_call 42; refine (haw _ HB3.out).mono ?_; rintro e w4 ⟨rfl, hb4⟩)
      | fail)
    go_ret
    exact ⟨by first | rfl | trivial, HB3.out.trans (hb4.mono HB3.out.size)⟩
end Go.Proofs.YtaipifjmkbcjjaaDoor
