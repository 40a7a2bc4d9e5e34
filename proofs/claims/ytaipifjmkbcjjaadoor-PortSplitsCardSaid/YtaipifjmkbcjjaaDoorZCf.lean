/- A configuration that came in as an argument, opened to cells. -/
import Derived.Test.YtaipifjmkbcjjaaDoorZOp
import Derived.Test.YtaipifjmkbcjjaaDoorZg0
namespace Go.Proofs.YtaipifjmkbcjjaaDoor
open Go.ChangeShapes Go.WideShapes Go.Deep

theorem drop_consV {s : List Value} {p : Nat} (h : p < s.length) : s.drop p = s.getD p undef :: s.drop (p + 1) := by
  rw [List.drop_eq_getElem_cons h]
  simp [List.getD_eq_getElem?_getD, List.getElem?_eq_getElem h]
theorem list25 (L : List Value) (h : L.length = 25) : L = [L.getD 0 undef, L.getD 1 undef, L.getD 2 undef, L.getD 3 undef, L.getD 4 undef, L.getD 5 undef, L.getD 6 undef, L.getD 7 undef, L.getD 8 undef, L.getD 9 undef, L.getD 10 undef, L.getD 11 undef, L.getD 12 undef, L.getD 13 undef, L.getD 14 undef, L.getD 15 undef, L.getD 16 undef, L.getD 17 undef, L.getD 18 undef, L.getD 19 undef, L.getD 20 undef, L.getD 21 undef, L.getD 22 undef, L.getD 23 undef, L.getD 24 undef] := by
  have h0 : L = L.drop 0 := rfl
  exact h0.trans (((drop_consV (by omega)).trans (congrArg (List.cons (L.getD 0 undef)) (((drop_consV (by omega)).trans (congrArg (List.cons (L.getD 1 undef)) (((drop_consV (by omega)).trans (congrArg (List.cons (L.getD 2 undef)) (((drop_consV (by omega)).trans (congrArg (List.cons (L.getD 3 undef)) (((drop_consV (by omega)).trans (congrArg (List.cons (L.getD 4 undef)) (((drop_consV (by omega)).trans (congrArg (List.cons (L.getD 5 undef)) (((drop_consV (by omega)).trans (congrArg (List.cons (L.getD 6 undef)) (((drop_consV (by omega)).trans (congrArg (List.cons (L.getD 7 undef)) (((drop_consV (by omega)).trans (congrArg (List.cons (L.getD 8 undef)) (((drop_consV (by omega)).trans (congrArg (List.cons (L.getD 9 undef)) (((drop_consV (by omega)).trans (congrArg (List.cons (L.getD 10 undef)) (((drop_consV (by omega)).trans (congrArg (List.cons (L.getD 11 undef)) (((drop_consV (by omega)).trans (congrArg (List.cons (L.getD 12 undef)) (((drop_consV (by omega)).trans (congrArg (List.cons (L.getD 13 undef)) (((drop_consV (by omega)).trans (congrArg (List.cons (L.getD 14 undef)) (((drop_consV (by omega)).trans (congrArg (List.cons (L.getD 15 undef)) (((drop_consV (by omega)).trans (congrArg (List.cons (L.getD 16 undef)) (((drop_consV (by omega)).trans (congrArg (List.cons (L.getD 17 undef)) (((drop_consV (by omega)).trans (congrArg (List.cons (L.getD 18 undef)) (((drop_consV (by omega)).trans (congrArg (List.cons (L.getD 19 undef)) (((drop_consV (by omega)).trans (congrArg (List.cons (L.getD 20 undef)) (((drop_consV (by omega)).trans (congrArg (List.cons (L.getD 21 undef)) (((drop_consV (by omega)).trans (congrArg (List.cons (L.getD 22 undef)) (((drop_consV (by omega)).trans (congrArg (List.cons (L.getD 23 undef)) (((drop_consV (by omega)).trans (congrArg (List.cons (L.getD 24 undef)) (List.drop_of_length_le (by omega)))))))))))))))))))))))))))))))))))))))))))))))))))))))))))))))))))))))))))))

section
variable {H : Type} {enc : TypeId × Value → H} {w : World} {base : Nat} {spare : Nat → Bool} {held : Bool}
theorem cfg_open {fuel : Nat} {cs : List Value} {y : DataW H × List MemPlace} (h : DataW.trod enc Tryd.prog w base spare held fuel 40 cs = some y) :
    ∃ (f c : Int) (x : Nat → Value) (ga : Option Addr) (gn gc : Nat), cs = (cfgA f c x).toList ∧ x 1 = .slice ga gn gc := by
  obtain ⟨xs, n, -, -, hlen, hxl, hf⟩ := DataW.trod_struct Tryd.underlying40 h
  have hl : cs.length = 25 := hlen.trans (by kernel_rfl)
  have hx : xs.length = 17 := hxl
  have h0 : DataW.trod enc Tryd.prog w base spare held n 3 ((cs.drop 0).take (Tryd.prog.cellsOf 3)) = xs[0]? := hf 0 _ rfl
  have h1 : DataW.trod enc Tryd.prog w base spare held n 26 ((cs.drop 1).take (Tryd.prog.cellsOf 26)) = xs[1]? := hf 1 _ rfl
  have h2 : DataW.trod enc Tryd.prog w base spare held n 3 ((cs.drop 2).take (Tryd.prog.cellsOf 3)) = xs[2]? := hf 2 _ rfl
  rw [List.getElem?_eq_getElem (by omega)] at h0 h1 h2
  have e3 : Tryd.prog.cellsOf 3 = 1 := by kernel_rfl
  have e26 : Tryd.prog.cellsOf 26 = 1 := by kernel_rfl
  rw [e3] at h0 h2
  rw [e26] at h1
  rw [one_of (by omega)] at h0 h1 h2
  obtain ⟨f, hk, -⟩ := DataW.trod_int Tryd.underlying3 h0
  obtain ⟨c, hc, -⟩ := DataW.trod_int Tryd.underlying3 h2
  obtain ⟨ga, gn, gc, hs⟩ : ∃ ga gn gc, [cs[1]'(by omega)] = [Value.slice ga gn gc] := by
    rcases DataW.trod_slice Tryd.underlying26 h1 with ⟨hh, -⟩ | ⟨a, len, cap, _, _, _, -, hh, -⟩
    · exact ⟨_, _, _, hh⟩
    · exact ⟨_, _, _, hh⟩
  simp only [List.cons.injEq, and_true] at hk hc hs
  have g0 : cs.getD 0 undef = .int .i64 f := by rw [← hk]; simp [List.getD_eq_getElem?_getD, List.getElem?_eq_getElem (show 0 < cs.length by omega)]
  have g1 : cs.getD 1 undef = .slice ga gn gc := by rw [← hs]; simp [List.getD_eq_getElem?_getD, List.getElem?_eq_getElem (show 1 < cs.length by omega)]
  have g2 : cs.getD 2 undef = .int .i64 c := by rw [← hc]; simp [List.getD_eq_getElem?_getD, List.getElem?_eq_getElem (show 2 < cs.length by omega)]
  refine ⟨f, c, fun i => cs.getD i undef, ga, gn, gc, ?_, g1⟩
  have hL := list25 cs hl
  rw [g0, g2] at hL
  exact hL
end
end Go.Proofs.YtaipifjmkbcjjaaDoor
