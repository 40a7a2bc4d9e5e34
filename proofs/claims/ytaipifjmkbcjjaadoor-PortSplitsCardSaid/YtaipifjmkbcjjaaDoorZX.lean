/- The laid variables: from the row's premise to what the walks ask. -/
import Derived.Test.YtaipifjmkbcjjaaDoorRows
import Derived.Test.YtaipifjmkbcjjaaDoorZB
import Derived.ProofKit
import Derived.OpenShut
import Derived.ShutString
import Derived.Lay
import Derived.LaidMore
import Derived.Lib.LaidTab
import Derived.Stop.Joined
namespace Go.Proofs.YtaipifjmkbcjjaaDoor
open Go.ChangeShapes Go.WideShapes Go.ChangeAt Go.RowKit

def laid4 : List (String × DataW Unit) := [("math/bits.deBruijn32tab", Rows.laid_math_bits_deBruijn32tab), ("math/bits.deBruijn64tab", Rows.laid_math_bits_deBruijn64tab), ("internal/strconv.uint64pow10", Rows.laid_internal_strconv_uint64pow10), ("tipstaff/crc.halves", Rows.laid_tipstaff_crc_halves)]

theorem own : ownKnob Tryd.prog.godebug = none := by kernel_rfl
theorem gHalves : Tryd.prog.globalNamed "tipstaff/crc.halves" = some 0 := by kernel_rfl
theorem tHalves : (Tryd.prog.globals[0]?).map (·.type) = some 147 := by kernel_rfl

theorem laid_plain {W : World} (h : laidMetH Tryd.prog laid4 W) : laidMet Tryd.prog laid4 W := by
  rwa [MakeChecks.laidMetH_plain _ _ _ (by kernel_rfl)] at h

theorem glob_of_laid {W : World} (h0 : laidMetH Tryd.prog laid4 W) : Glob W := by
  have h := laid_plain h0
  obtain ⟨ps, ⟨_, _, _, _, _, _, _, _, _, _, ⟨_, _, _, _, _, _, _, _, _, _, ⟨_, _, _, _, _, _, _, _, _, _, ⟨g, t, cs, f, p, q, hg, ht, hv, hd, _, _⟩, _⟩, _⟩, _⟩, _, _⟩ := h
  obtain rfl := Option.some.inj (gHalves.symm.trans hg)
  obtain rfl := Option.some.inj (tHalves.symm.trans ht)
  have hcs := Lib.cells_of_tab (k := .u8) (zs := halvesL) (e := 5) (n := 16) (by kernel_rfl) (by kernel_rfl) (by kernel_rfl) (by kernel_rfl) hd
  have hc : ∀ k : Nat, k < 16 → W.cell? ⟨0, k, none⟩ = some (.int .u8 (halvesL.getD k 0)) := fun k hk => by
    have := World.var?_cell hg hv k
    rw [this]
    have e : cs[k]? = cs.toList[k]? := by simp
    rw [e, hcs]
    have hl : k < halvesL.length := by simpa [halvesL] using hk
    simp [List.getD_eq_getElem?_getD, List.getElem?_eq_getElem hl]
  refine ⟨?_, hc⟩
  have := hc 0 (by decide)
  rcases Nat.eq_zero_or_pos W.heap.size with h | h
  · have e : W.heap[0]? = none := by simp [h]
    unfold World.cell? at this
    simp [e] at this
  · exact h
end Go.Proofs.YtaipifjmkbcjjaaDoor
