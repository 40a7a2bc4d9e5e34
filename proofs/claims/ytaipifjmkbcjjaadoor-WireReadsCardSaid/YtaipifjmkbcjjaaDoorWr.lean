/- Walks: WireReads. -/
import Derived.Test.YtaipifjmkbcjjaaDoorAw
import Derived.Test.YtaipifjmkbcjjaaDoorRe
namespace Go.Proofs.YtaipifjmkbcjjaaDoor
open Go.RowKit Go.Sort

set_option maxHeartbeats 2000000 in
theorem WireReads_any (s : ByteArray) (w : World) (hg : Glob w) (hm : s.size ≤ maxLen) :
    Calls Tryd.prog 10 #[.string s] w fun e w' => e = .returned (.bool true) ∧ Below w.heap.size w w' := by
  have haw : ∀ W, Below w.heap.size w W → Calls Tryd.prog 42 #[] W _ := fun W hb => awake06 W (hg.next hb)
  obtain ⟨d, hd⟩ : ∃ d, decS s.data.toList = d := ⟨_, rfl⟩
  have hde := decode_fields s w hm hg d hd
  have hod : ∀ W, Calls Tryd.prog 44 #[.string s] W fun e w' => e = .returned (.tuple #[.agg #[.int .i64 d.t, .int .i64 d.k, .int .i64 d.a, .int .i64 d.b], .agg #[.int .i64 d.er, .int .i64 d.at']]) ∧ Below W.heap.size W w' := fun W => by
    have h := odecode_any s W
    rw [hd] at h; exact h
  clear hd
  have HB0 := Lib.hid (Below.refl w.heap.size w)
  by_cases h40 : (40 : Int) < (s.size : Int)
  · have h40' : decide ((40 : Int) < (s.size : Int)) = true := by simpa using h40
    clear h40
    go_enter Tryd.func10, Tryd.ntmps10
    go_wp2_with (first
      | (go_at_call 42; refine (haw _ HB0.out).mono ?_; rintro e w6 ⟨rfl, hb6⟩)
      | fail)
    go_ret
    exact ⟨by first | rfl | trivial, hb6⟩
  · have h40' : decide ((40 : Int) < (s.size : Int)) = false := by simpa using h40
    clear h40
    go_enter Tryd.func10, Tryd.ntmps10
    go_wp2_with (first
      | (go_at_call 43; refine hde.mono ?_; rintro e w1 ⟨rfl, hb1⟩; have HB1 := Lib.hid (HB0.out.trans hb1); clear hb1)
      | fail)
    have HF := Lib.hid ((Bl.new w1 #[.int .i64 d.t, .int .i64 d.k, .int .i64 d.a, .int .i64 d.b] 68).alloc (.cells #[.int .i64 d.er, .int .i64 d.at'] 70))
    have HE := Lib.hid (Bl.new (w1.alloc (.cells #[.int .i64 d.t, .int .i64 d.k, .int .i64 d.a, .int .i64 d.b] 68)) #[.int .i64 d.er, .int .i64 d.at'] 70)
    rw [World.size_alloc] at HE
    have HB4 := Lib.hid ((HB1.out.alloc HB1.out.size (.cells #[.int .i64 d.t, .int .i64 d.k, .int .i64 d.a, .int .i64 d.b] 68)).alloc (HB1.out.alloc HB1.out.size (.cells #[.int .i64 d.t, .int .i64 d.k, .int .i64 d.a, .int .i64 d.b] 68)).size (.cells #[.int .i64 d.er, .int .i64 d.at'] 70))
    generalize (w1.alloc (.cells #[.int .i64 d.t, .int .i64 d.k, .int .i64 d.a, .int .i64 d.b] 68)).alloc (.cells #[.int .i64 d.er, .int .i64 d.at'] 70) = W at *
    generalize w1.heap.size = A at *
    refine (hod W).mono ?_
    rintro e w5 ⟨rfl, hb5⟩
    have HB5 := Lib.hid (HB4.out.trans (hb5.mono HB4.out.size))
    have HF5 := Lib.hid (HF.out.below hb5 HF.out.lt)
    have HE5 := Lib.hid (HE.out.below hb5 HE.out.lt)
    clear hb5 HF HE HB4
    have cF : ∀ o1 o2 o, ((w5.alloc o1).alloc o2).cell? ⟨A, o, none⟩ = _ := fun o1 o2 => ((HF5.out.alloc o1).alloc o2).cell
    have cE : ∀ o1 o2 o, ((w5.alloc o1).alloc o2).cell? ⟨A + 1, o, none⟩ = _ := fun o1 o2 => ((HE5.out.alloc o1).alloc o2).cell
    have HB6 : Hid (∀ o1 o2, Below w.heap.size w ((w5.alloc o1).alloc o2)) := fun o1 o2 => (HB5.out.alloc HB5.out.size o1).alloc (HB5.out.alloc HB5.out.size o1).size o2
    go_wp2_with (first
      | (go_at_call 42; refine (haw _ (HB6.out _ _)).mono ?_; rintro e w6 ⟨rfl, hb6⟩)
      | fail)
    go_ret
    exact ⟨by first | rfl | trivial, (HB6.out _ _).trans (hb6.mono (HB6.out _ _).size)⟩
end Go.Proofs.YtaipifjmkbcjjaaDoor
