/- Walks: whether a text has a fault. -/
import Derived.Test.YtaipifjmkbcjjaaDoorMk
import Derived.Test.YtaipifjmkbcjjaaDoorSf
namespace Go.Proofs.YtaipifjmkbcjjaaDoor
open Go.RowKit Go.Sort

def faultB (L : List UInt8) (er at' : Int) : Bool := decide ((decS L).er = er ∧ (decS L).at' = at')

set_option maxHeartbeats 1000000 in
theorem faulty_any (s : ByteArray) (er at' : Int) (w : World) (hg : Glob w) (hm : s.size ≤ maxLen) :
    Calls Tryd.prog 52 #[.string s, .int .i64 er, .int .i64 at'] w fun e w' => e = .returned (.bool (faultB s.data.toList er at')) ∧ Below w.heap.size w w' := by
  obtain ⟨d, hd⟩ : ∃ d, decS s.data.toList = d := ⟨_, rfl⟩
  have hde := decode_fields s w hm hg d hd
  unfold faultB
  rw [hd]
  clear hd
  generalize d.t = d1 at *
  generalize d.k = d2 at *
  generalize d.a = d3 at *
  generalize d.b = d4 at *
  generalize d.er = d5 at *
  generalize d.at' = d6 at *
  have HB0 := Lib.hid (Below.refl w.heap.size w)
  go_enter Tryd.func52, Tryd.ntmps52
  go_wp2_with (first
    | (go_at_call 43; refine hde.mono ?_; rintro e w1 ⟨rfl, hb1⟩; have HB1 := Lib.hid (HB0.out.trans hb1); clear hb1)
    | fail)
  all_goals go_ret
  all_goals refine ⟨?_, (HB1.out.alloc HB1.out.size _).alloc (HB1.out.alloc HB1.out.size _).size _⟩
  all_goals simp_all
end Go.Proofs.YtaipifjmkbcjjaaDoor
