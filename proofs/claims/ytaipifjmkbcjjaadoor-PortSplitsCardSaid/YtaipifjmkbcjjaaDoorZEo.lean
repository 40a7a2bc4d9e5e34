/- Lists of entries that came in as arguments, opened to cells. -/
import Derived.Test.YtaipifjmkbcjjaaDoorZOp
import Derived.Test.YtaipifjmkbcjjaaDoorZEt
namespace Go.Proofs.YtaipifjmkbcjjaaDoor
open Go.ChangeShapes Go.WideShapes Go.Deep

section
variable {H : Type} {enc : TypeId × Value → H} {w : World} {base : Nat} {spare : Nat → Bool} {held : Bool}

theorem entry_open {fuel : Nat} {cs : List Value} {x : DataW H × List MemPlace} (h : DataW.trod enc Tryd.prog w base spare held fuel 57 cs = some x) : ∃ f : Et, cs = f.cs.toList := by
  obtain ⟨xs, n, -, -, hlen, hxl, hf⟩ := DataW.trod_struct Tryd.underlying57 h
  have hl : cs.length = 7 := hlen.trans (by kernel_rfl)
  have hx : xs.length = 7 := hxl
  have h0 : DataW.trod enc Tryd.prog w base spare held n 3 ((cs.drop 0).take (Tryd.prog.cellsOf 3)) = xs[0]? := hf 0 _ rfl
  have h1 : DataW.trod enc Tryd.prog w base spare held n 3 ((cs.drop 1).take (Tryd.prog.cellsOf 3)) = xs[1]? := hf 1 _ rfl
  have h2 : DataW.trod enc Tryd.prog w base spare held n 3 ((cs.drop 2).take (Tryd.prog.cellsOf 3)) = xs[2]? := hf 2 _ rfl
  have h3 : DataW.trod enc Tryd.prog w base spare held n 9 ((cs.drop 3).take (Tryd.prog.cellsOf 9)) = xs[3]? := hf 3 _ rfl
  have h4 : DataW.trod enc Tryd.prog w base spare held n 3 ((cs.drop 4).take (Tryd.prog.cellsOf 3)) = xs[4]? := hf 4 _ rfl
  have h5 : DataW.trod enc Tryd.prog w base spare held n 3 ((cs.drop 5).take (Tryd.prog.cellsOf 3)) = xs[5]? := hf 5 _ rfl
  have h6 : DataW.trod enc Tryd.prog w base spare held n 3 ((cs.drop 6).take (Tryd.prog.cellsOf 3)) = xs[6]? := hf 6 _ rfl
  rw [List.getElem?_eq_getElem (by omega)] at h0 h1 h2 h3 h4 h5 h6
  have e3 : Tryd.prog.cellsOf 3 = 1 := by kernel_rfl
  have e9 : Tryd.prog.cellsOf 9 = 1 := by kernel_rfl
  rw [e3] at h0 h1 h2 h4 h5 h6
  rw [e9] at h3
  rw [one_of (by omega)] at h0 h1 h2 h3 h4 h5 h6
  obtain ⟨y0, k0, -⟩ := DataW.trod_int Tryd.underlying3 h0
  obtain ⟨y1, k1, -⟩ := DataW.trod_int Tryd.underlying3 h1
  obtain ⟨y2, k2, -⟩ := DataW.trod_int Tryd.underlying3 h2
  obtain ⟨y3, k3, -, -⟩ := DataW.trod_string Tryd.underlying9 h3
  obtain ⟨y4, k4, -⟩ := DataW.trod_int Tryd.underlying3 h4
  obtain ⟨y5, k5, -⟩ := DataW.trod_int Tryd.underlying3 h5
  obtain ⟨y6, k6, -⟩ := DataW.trod_int Tryd.underlying3 h6
  simp only [List.cons.injEq, and_true] at k0 k1 k2 k3 k4 k5 k6
  refine ⟨⟨y0, y1, y2, y3, y4, y5, y6⟩, ?_⟩
  apply List.ext_getElem (by rw [hl]; rfl)
  intro i hi1 hi2
  have hi : i < 7 := by omega
  obtain rfl | rfl | rfl | rfl | rfl | rfl | rfl : i = 0 ∨ i = 1 ∨ i = 2 ∨ i = 3 ∨ i = 4 ∨ i = 5 ∨ i = 6 := by omega
  · exact k0
  · exact k1
  · exact k2
  · exact k3
  · exact k4
  · exact k5
  · exact k6

theorem entries_open {fuel : Nat} {cs : List Value} {x : DataW H × List MemPlace} (h : DataW.trod enc Tryd.prog w base spare held fuel 55 cs = some x) : ∃ (v : Value) (fs : List Et), cs = [v] ∧ SeesE w v fs := by
  rcases open_slice Tryd.underlying55 h with ⟨rfl, -⟩ | ⟨a, len, cap, m, n, D, Pl, rfl, -, hl, -, hmm, -, hi⟩
  · exact ⟨_, [], rfl, none, 0, rfl, fun h0 => by simp at h0⟩
  · have e57 : Tryd.prog.cellsOf 57 = 7 := by kernel_rfl
    have hlm : len ≤ m := by rw [hmm]; split <;> omega
    have key : ∀ i, ∃ f : Et, i < len → w.cells? base (a.add (i * 7)) 7 = some f.cs.toList := fun i => by
      by_cases hil : i < len
      · obtain ⟨cs', hc, ht⟩ := hi i (by omega)
        rw [e57] at hc
        obtain ⟨f, rfl⟩ := entry_open ht
        exact ⟨f, fun _ => hc⟩
      · exact ⟨et0, fun hh => absurd hh hil⟩
    let F : Nat → Et := fun i => Classical.choose (key i)
    have hF : ∀ i, i < len → w.cells? base (a.add (i * 7)) 7 = some (F i).cs.toList := fun i => Classical.choose_spec (key i)
    have hFl : ((List.range len).map F).length = len := by simp
    refine ⟨_, (List.range len).map F, rfl, some a, cap, by rw [hFl], fun h0 => ?_⟩
    rw [hFl] at h0
    have hspot : a.spot = none := by
      obtain ⟨_, _, hat⟩ := World.cells?_some (hF 0 h0)
      have h1 := hat 0 (by omega)
      have e : ((a.add (0 * 7)).add 0) = a := by simp [Addr.add]
      rw [e] at h1
      unfold World.cell? at h1
      cases hs : a.spot with
      | none => rfl
      | some s => rw [hs] at h1; split at h1 <;> simp at h1
    refine ⟨a.block, a.off, by cases a; simp_all, fun k j u hu hk => ?_⟩
    rw [hFl] at hk
    have hg : ((List.range len).map F).getD k et0 = F k := by simp [List.getD_eq_getElem?_getD, hk]
    rw [hg] at hu
    have hj : j < 7 := by
      obtain ⟨hj, -⟩ := Array.getElem?_eq_some_iff.1 hu
      simpa using hj
    obtain ⟨_, _, hat⟩ := World.cells?_some (hF k hk)
    have h1 := hat j hj
    have e : ((a.add (k * 7)).add j) = ⟨a.block, a.off + k * 7 + j, none⟩ := by
      rw [Go.Deep.add_add]
      unfold Addr.add
      split
      · rename_i e0
        have : k * 7 = 0 ∧ j = 0 := by omega
        cases a; simp_all
      · cases a; simp_all <;> omega
    rw [e] at h1
    rw [h1]
    simpa using hu
end
end Go.Proofs.YtaipifjmkbcjjaaDoor
