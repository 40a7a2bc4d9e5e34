/- Walks: two lists of frames, compared. -/
import Derived.Test.YtaipifjmkbcjjaaDoorZSc
import Derived.BigQuiet
namespace Go.Proofs.YtaipifjmkbcjjaaDoor
open Go.RowKit Go.Sort

/-- A slice's value that reads as some frames. -/
def SeesF (w : World) (v : Value) (fs : List Fr) : Prop :=
  ∃ ao cap, v = .slice ao fs.length cap ∧ (0 < fs.length → ∃ b off, ao = some ⟨b, off, none⟩ ∧ ∀ k j u, (fs.getD k fr0).c[j]? = some u → k < fs.length → w.cell? ⟨b, off + k * 4 + j, none⟩ = some u)

theorem flat_at (fs : List Fr) : ∀ (k j : Nat) (u : Value), (fs.getD k fr0).c[j]? = some u → k < fs.length → (flat fs)[k * 4 + j]? = some u := by
  induction fs with
  | nil => intro k j u _ h; simp at h
  | cons f fs ih =>
    intro k j u h hk
    have hj : j < 4 := by
      have := Array.getElem?_eq_some_iff.1 h
      obtain ⟨hj, -⟩ := this
      simpa using hj
    cases k with
    | zero =>
      show (f.c.toList ++ flat fs)[0 * 4 + j]? = _
      rw [List.getElem?_append_left (by simp; omega)]
      simpa using h
    | succ k =>
      show (f.c.toList ++ flat fs)[(k + 1) * 4 + j]? = _
      rw [List.getElem?_append_right (by simp; omega)]
      rw [show (k + 1) * 4 + j - f.c.toList.length = k * 4 + j by simp; omega]
      exact ih k j u (by simpa using h) (by simpa using hk)

theorem own_sees {w : World} {base : Nat} {v : Value} {fs : List Fr} (h : w.ownsRow base 68 4 v fs.length (flat fs)) : SeesF w v fs := by
  have hc : ∀ g, v.ownBlock = some g → _ := fun g hg => h.cells (g := g) hg
  rcases h.2 with ⟨rfl, hn⟩ | ⟨g, cap, cur, rfl, hbg, hg, hnc, hcm, hcs, htake⟩
  · exact ⟨none, 0, by rw [hn], fun h0 => by omega⟩
  · refine ⟨_, cap, rfl, fun _ => ⟨g, 0, rfl, fun k j u hu hk => ?_⟩⟩
    have := hc g rfl (k * 4 + j) u (flat_at fs k j u hu hk)
    have e : (⟨g, 0, none⟩ : Addr).add (k * 4 + j) = ⟨g, k * 4 + j, none⟩ := by unfold Addr.add; split <;> simp_all
    rw [e] at this
    rw [← this]; congr 2; omega

theorem SeesF.block {w w' : World} {v : Value} {fs : List Fr} (h : SeesF w v fs) (hb : RowKit.Below w.heap.size w w') : SeesF w' v fs := by
  obtain ⟨ao, cap, hv, hc⟩ := h
  refine ⟨ao, cap, hv, fun h0 => ?_⟩
  obtain ⟨b, off, he, hx⟩ := hc h0
  refine ⟨b, off, he, fun k j u hu hk => ?_⟩
  have h1 := hx k j u hu hk
  have hlt : b < w.heap.size := World.block_lt_of_cell? w ⟨b, off + k * 4 + j, none⟩ h1
  rw [← h1]
  exact hb.cell (p := ⟨b, off + k * 4 + j, none⟩) hlt

theorem SeesF.grown {w w' : World} {v : Value} {fs : List Fr} {row : Option Nat} (h : SeesF w v fs) (hg : w.grownBy w' row) (hne : v.ownBlock = none ∨ v.ownBlock ≠ row) : SeesF w' v fs := by
  obtain ⟨ao, cap, rfl, hc⟩ := h
  refine ⟨ao, cap, rfl, fun h0 => ?_⟩
  obtain ⟨b, off, rfl, hx⟩ := hc h0
  refine ⟨b, off, rfl, fun k j u hu hk => ?_⟩
  exact hg.cell (hx k j u hu hk) (by simpa [Value.ownBlock] using hne)

theorem sameFrames_len (ao bo : Option Addr) (n m c1 c2 : Nat) (w : World) (hne : n ≠ m) :
    Calls Tryd.prog 47 #[.slice ao n c1, .slice bo m c2] w fun e w' => e = .returned (.bool false) ∧ w' = w := by
  have hq : ((n : Int) != (m : Int)) = true := by simp; omega
  go_enter Tryd.func47, Tryd.ntmps47
  go_wp2
  go_ret
  exact ⟨by first | rfl | trivial, by first | rfl | trivial⟩

theorem sameFrames_nil (ao bo : Option Addr) (c1 c2 : Nat) (w : World) :
    Calls Tryd.prog 47 #[.slice ao 0 c1, .slice bo 0 c2] w fun e w' => e = .returned (.bool true) ∧ w' = w := by
  go_enter Tryd.func47, Tryd.ntmps47
  go_wp2
  go_loopw [5] (fun i wr => i = .int .i64 0 ∧ wr = w) (fun _ _ => 0)
  case atStart => exact ⟨rfl, rfl⟩
  case round =>
    obtain ⟨rfl, rfl⟩ := hrel
    go_wp2
    go_ret
    exact ⟨by first | rfl | trivial, by first | rfl | trivial⟩

set_option maxHeartbeats 1000000 in
theorem sameFrames_cells (b off b' off' c1 c2 : Nat) (fs gs : List Fr) (hl : fs.length = gs.length) (hm : fs.length ≤ maxLen) (w : World)
    (hf : ∀ k j u, (fs.getD k fr0).c[j]? = some u → k < fs.length → w.cell? ⟨b, off + k * 4 + j, none⟩ = some u)
    (hg : ∀ k j u, (gs.getD k fr0).c[j]? = some u → k < gs.length → w.cell? ⟨b', off' + k * 4 + j, none⟩ = some u) :
    Calls Tryd.prog 47 #[.slice (some ⟨b, off, none⟩) fs.length c1, .slice (some ⟨b', off', none⟩) gs.length c2] w fun e w' => e = .returned (.bool (decide (fs = gs))) ∧ RowKit.Below w.heap.size w w' := by
  unfold maxLen at hm
  have hq : ((fs.length : Int) != (gs.length : Int)) = false := by simp; omega
  go_enter Tryd.func47, Tryd.ntmps47
  go_wp2
  go_loopw [5] (fun i wr => ∃ k : Nat, k ≤ fs.length ∧ i = .int .i64 k ∧ Hid (fs.take k = gs.take k) ∧ RowKit.Below w.heap.size w wr)
    (fun i _ => fs.length - (intOf i).toNat)
  case atStart => exact ⟨0, Nat.zero_le _, rfl, by show _ = _; simp, RowKit.Below.refl _ _⟩
  case round =>
    obtain ⟨k, hk, rfl, Hn, hb⟩ := hrel
    by_cases hlt : k < fs.length
    · have a1 : (k : Int) < fs.length := by omega
      have a2 : (0 : Int) ≤ k := by omega
      have a3 : (k : Int) < gs.length := by omega
      obtain ⟨x, hx⟩ : ∃ x, fs.getD k fr0 = x := ⟨_, rfl⟩
      obtain ⟨y, hy⟩ : ∃ y, gs.getD k fr0 = y := ⟨_, rfl⟩
      have f0 := hf k 0 (.int .i64 x.t) (by rw [hx]; rfl) hlt
      have f1 := hf k 1 (.int .i64 x.k) (by rw [hx]; rfl) hlt
      have f2 := hf k 2 (.int .i64 x.a) (by rw [hx]; rfl) hlt
      have f3 := hf k 3 (.int .i64 x.b) (by rw [hx]; rfl) hlt
      have g0 := hg k 0 (.int .i64 y.t) (by rw [hy]; rfl) (by omega)
      have g1 := hg k 1 (.int .i64 y.k) (by rw [hy]; rfl) (by omega)
      have g2 := hg k 2 (.int .i64 y.a) (by rw [hy]; rfl) (by omega)
      have g3 := hg k 3 (.int .i64 y.b) (by rw [hy]; rfl) (by omega)
      clear hf hg
      have hbb : b < w.heap.size := World.block_lt_of_cell? w ⟨b, off + k * 4 + 0, none⟩ f0
      have hbb' : b' < w.heap.size := World.block_lt_of_cell? w ⟨b', off' + k * 4 + 0, none⟩ g0
      have q0 : ∀ a, wr.cell? ⟨b, a, none⟩ = w.cell? ⟨b, a, none⟩ := fun a => hb.cell (p := ⟨b, a, none⟩) hbb
      have q1 : ∀ a, wr.cell? ⟨b', a, none⟩ = w.cell? ⟨b', a, none⟩ := fun a => hb.cell (p := ⟨b', a, none⟩) hbb'
      simp only [← q0] at f0 f1 f2 f3
      simp only [← q1] at g0 g1 g2 g3
      rw [Nat.add_zero] at f0 g0
      have HB := Lib.hid hb
      clear q0 q1 hbb hbb' hb
      by_cases hxy : x = y
      · subst hxy
        have Hn2 : Hid (fs.take (k + 1) = gs.take (k + 1)) := by
          show _ = _
          rw [List.take_add_one, List.take_add_one, Hn.out]
          congr 2
          rw [List.getD_eq_getElem?_getD] at hx hy
          rw [List.getElem?_eq_getElem hlt] at hx ⊢
          rw [List.getElem?_eq_getElem (by omega)] at hy ⊢
          simp only [Option.getD_some] at hx hy
          rw [hx, hy]
        clear hx hy
        go_wp2
        go_quiet (fail)
        have HB2 := belowN HB.out nq
        go_wp2
        refine ⟨⟨k + 1, by omega, by go_num, Hn2, HB2⟩, ?_⟩
        simp [intOf]; omega
      · have hne : fs ≠ gs := fun e => hxy (by rw [← hx, ← hy, e])
        have hor : x.t ≠ y.t ∨ (x.t = y.t ∧ (x.k ≠ y.k ∨ (x.k = y.k ∧ (x.a ≠ y.a ∨ (x.a = y.a ∧ x.b ≠ y.b))))) := by
          by_cases e1 : x.t = y.t
          · by_cases e2 : x.k = y.k
            · by_cases e3 : x.a = y.a
              · by_cases e4 : x.b = y.b
                · exact absurd (by cases x; cases y; simp_all) hxy
                · exact .inr ⟨e1, .inr ⟨e2, .inr ⟨e3, e4⟩⟩⟩
              · exact .inr ⟨e1, .inr ⟨e2, .inl e3⟩⟩
            · exact .inr ⟨e1, .inl e2⟩
          · exact .inl e1
        clear hx hy hxy Hn
        generalize x.t = x1 at *
        generalize x.k = x2 at *
        generalize x.a = x3 at *
        generalize x.b = x4 at *
        generalize y.t = y1 at *
        generalize y.k = y2 at *
        generalize y.a = y3 at *
        generalize y.b = y4 at *
        rcases hor with h | ⟨rfl, h | ⟨rfl, h | ⟨rfl, h⟩⟩⟩
        all_goals simp only [← beq_eq_false_iff_ne] at h
        all_goals go_wp2
        all_goals go_quiet (fail)
        all_goals go_wp2
        all_goals go_ret
        all_goals exact ⟨by simp [hne], belowN HB.out nq⟩
    · have a1 : ¬ (k : Int) < fs.length := by omega
      have a3 : ¬ (k : Int) < gs.length := by omega
      obtain rfl : k = fs.length := by omega
      clear hf hg
      go_wp2
      go_ret
      have h := Hn.out
      rw [List.take_length, hl, List.take_length] at h
      exact ⟨by simp [h], hb⟩

theorem sameFrames_sees {v1 v2 : Value} {fs gs : List Fr} {w : World} (S1 : SeesF w v1 fs) (S2 : SeesF w v2 gs) (hm : fs.length ≤ maxLen) :
    Calls Tryd.prog 47 #[v1, v2] w fun e w' => e = .returned (.bool (decide (fs = gs))) ∧ RowKit.Below w.heap.size w w' := by
  obtain ⟨ao, c1, rfl, h1⟩ := S1
  obtain ⟨bo, c2, rfl, h2⟩ := S2
  by_cases hl : fs.length = gs.length
  · rcases Nat.eq_zero_or_pos fs.length with h0 | h0
    · have e1 : fs = [] := List.eq_nil_of_length_eq_zero h0
      have e2 : gs = [] := List.eq_nil_of_length_eq_zero (by omega)
      subst e1 e2
      refine (sameFrames_nil ao bo c1 c2 w).mono ?_
      rintro e w' ⟨rfl, rfl⟩
      exact ⟨rfl, RowKit.Below.refl _ _⟩
    · obtain ⟨b, off, rfl, hc1⟩ := h1 h0
      obtain ⟨b', off', rfl, hc2⟩ := h2 (by omega)
      exact sameFrames_cells b off b' off' c1 c2 fs gs hl hm w hc1 hc2
  · refine (sameFrames_len ao bo _ _ c1 c2 w hl).mono ?_
    rintro e w' ⟨rfl, rfl⟩
    have : fs ≠ gs := fun e => hl (by rw [e])
    exact ⟨by simp [this], RowKit.Below.refl _ _⟩
end Go.Proofs.YtaipifjmkbcjjaaDoor
