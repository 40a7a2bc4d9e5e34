/- Frames and lists of frames that came in as arguments, opened to cells. -/
import Derived.Deep.Slices
import Derived.Deep.Fields
import Derived.ChangeSame
import Derived.Test.YtaipifjmkbcjjaaDoorZSf
namespace Go.Proofs.YtaipifjmkbcjjaaDoor
open Go.ChangeShapes Go.WideShapes Go.Deep

section
variable {H : Type} {enc : TypeId × Value → H} {w : World} {base : Nat} {spare : Nat → Bool} {held : Bool}

theorem one_of {cs : List Value} {i : Nat} (h : i < cs.length) : (cs.drop i).take 1 = [cs[i]] := by
  rw [List.drop_eq_getElem_cons h]; rfl

theorem event_open {fuel : Nat} {cs : List Value} {x : DataW H × List MemPlace} (h : DataW.trod enc Tryd.prog w base spare held fuel 43 cs = some x) :
    ∃ k a b : Int, cs = [.int .i64 k, .int .i64 a, .int .i64 b] := by
  obtain ⟨xs, n, -, -, hlen, hxl, hf⟩ := DataW.trod_struct Tryd.underlying43 h
  have hl : cs.length = 3 := hlen.trans (by kernel_rfl)
  have hx : xs.length = 3 := hxl
  have h0 : DataW.trod enc Tryd.prog w base spare held n 3 ((cs.drop 0).take (Tryd.prog.cellsOf 3)) = xs[0]? := hf 0 _ rfl
  have h1 : DataW.trod enc Tryd.prog w base spare held n 3 ((cs.drop 1).take (Tryd.prog.cellsOf 3)) = xs[1]? := hf 1 _ rfl
  have h2 : DataW.trod enc Tryd.prog w base spare held n 3 ((cs.drop 2).take (Tryd.prog.cellsOf 3)) = xs[2]? := hf 2 _ rfl
  rw [List.getElem?_eq_getElem (by omega)] at h0 h1 h2
  have e3 : Tryd.prog.cellsOf 3 = 1 := by kernel_rfl
  rw [e3] at h0 h1 h2
  rw [one_of (by omega)] at h0 h1 h2
  obtain ⟨k, hk, -⟩ := DataW.trod_int Tryd.underlying3 h0
  obtain ⟨a, ha, -⟩ := DataW.trod_int Tryd.underlying3 h1
  obtain ⟨b, hb, -⟩ := DataW.trod_int Tryd.underlying3 h2
  simp only [List.cons.injEq, and_true] at hk ha hb
  refine ⟨k, a, b, ?_⟩

  apply List.ext_getElem (by rw [hl]; rfl)
  intro i hi1 hi2
  have hi : i < 3 := by omega
  obtain rfl | rfl | rfl : i = 0 ∨ i = 1 ∨ i = 2 := by omega
  · exact hk
  · exact ha
  · exact hb

theorem frame_open {fuel : Nat} {cs : List Value} {x : DataW H × List MemPlace} (h : DataW.trod enc Tryd.prog w base spare held fuel 68 cs = some x) : ∃ f : Fr, cs = f.c.toList := by
  obtain ⟨xs, n, -, -, hlen, hxl, hf⟩ := DataW.trod_struct Tryd.underlying68 h
  have hl : cs.length = 4 := hlen.trans (by kernel_rfl)
  have hx : xs.length = 2 := hxl
  have h0 : DataW.trod enc Tryd.prog w base spare held n 3 ((cs.drop 0).take (Tryd.prog.cellsOf 3)) = xs[0]? := hf 0 _ rfl
  have h1 : DataW.trod enc Tryd.prog w base spare held n 43 ((cs.drop 1).take (Tryd.prog.cellsOf 43)) = xs[1]? := hf 1 _ rfl
  rw [List.getElem?_eq_getElem (by omega)] at h0 h1
  have e3 : Tryd.prog.cellsOf 3 = 1 := by kernel_rfl
  have e43 : Tryd.prog.cellsOf 43 = 3 := by kernel_rfl
  rw [e3] at h0
  rw [e43] at h1
  rw [one_of (by omega)] at h0
  obtain ⟨t, ht, -⟩ := DataW.trod_int Tryd.underlying3 h0
  obtain ⟨k, a, b, hk⟩ := event_open h1
  simp only [List.cons.injEq, and_true] at ht
  refine ⟨⟨t, k, a, b⟩, ?_⟩

  have hd : cs = cs[0]'(by omega) :: cs.drop 1 := by rw [← List.drop_eq_getElem_cons]; rfl
  have ht3 : (cs.drop 1).take 3 = cs.drop 1 := List.take_of_length_le (by rw [List.length_drop]; omega)
  rw [ht3] at hk
  rw [hd, hk, ht]

theorem frames_open {fuel : Nat} {cs : List Value} {x : DataW H × List MemPlace} (h : DataW.trod enc Tryd.prog w base spare held fuel 74 cs = some x) : ∃ (v : Value) (fs : List Fr), cs = [v] ∧ SeesF w v fs := by
  rcases open_slice Tryd.underlying74 h with ⟨rfl, -⟩ | ⟨a, len, cap, m, n, D, Pl, rfl, -, hl, -, hmm, -, hi⟩
  · exact ⟨_, [], rfl, none, 0, rfl, fun h0 => by simp at h0⟩
  · have e68 : Tryd.prog.cellsOf 68 = 4 := by kernel_rfl
    have hlm : len ≤ m := by rw [hmm]; split <;> omega
    have key : ∀ i, ∃ f : Fr, i < len → w.cells? base (a.add (i * 4)) 4 = some f.c.toList := fun i => by
      by_cases hil : i < len
      · obtain ⟨cs', hc, ht⟩ := hi i (by omega)
        rw [e68] at hc
        obtain ⟨f, rfl⟩ := frame_open ht
        exact ⟨f, fun _ => hc⟩
      · exact ⟨fr0, fun hh => absurd hh hil⟩
    let F : Nat → Fr := fun i => Classical.choose (key i)
    have hF : ∀ i, i < len → w.cells? base (a.add (i * 4)) 4 = some (F i).c.toList := fun i => Classical.choose_spec (key i)
    have hFl : ((List.range len).map F).length = len := by simp
    refine ⟨_, (List.range len).map F, rfl, some a, cap, by rw [hFl], fun h0 => ?_⟩
    rw [hFl] at h0
    have hspot : a.spot = none := by
      obtain ⟨_, _, hat⟩ := World.cells?_some (hF 0 h0)
      have h1 := hat 0 (by omega)
      have e : ((a.add (0 * 4)).add 0) = a := by simp [Addr.add]
      rw [e] at h1
      unfold World.cell? at h1
      cases hs : a.spot with
      | none => rfl
      | some s => rw [hs] at h1; split at h1 <;> simp at h1
    refine ⟨a.block, a.off, by cases a; simp_all, fun k j u hu hk => ?_⟩
    rw [hFl] at hk
    have hg : ((List.range len).map F).getD k fr0 = F k := by simp [List.getD_eq_getElem?_getD, hk]
    rw [hg] at hu
    have hj : j < 4 := by
      obtain ⟨hj, -⟩ := Array.getElem?_eq_some_iff.1 hu
      simpa using hj
    obtain ⟨_, _, hat⟩ := World.cells?_some (hF k hk)
    have h1 := hat j hj
    have e : ((a.add (k * 4)).add j) = ⟨a.block, a.off + k * 4 + j, none⟩ := by
      rw [Go.Deep.add_add]
      unfold Addr.add
      split
      · rename_i e0
        have : k * 4 = 0 ∧ j = 0 := by omega
        cases a; simp_all
      · cases a; simp_all <;> omega
    rw [e] at h1
    rw [h1]
    simpa using hu
end
end Go.Proofs.YtaipifjmkbcjjaaDoor
