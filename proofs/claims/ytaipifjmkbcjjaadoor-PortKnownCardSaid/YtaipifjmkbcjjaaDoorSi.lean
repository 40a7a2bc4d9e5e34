/- Walks: two lists of integers, compared. -/
import Derived.Test.YtaipifjmkbcjjaaDoorV
import Derived.BigQuiet
namespace Go.Proofs.YtaipifjmkbcjjaaDoor
open Go.RowKit Go.Sort

/-- A slice's value that reads as some integers. -/
def SeesI (w : World) (v : Value) (xs : List Int) : Prop :=
  ∃ ao cap, v = .slice ao xs.length cap ∧ (0 < xs.length → ∃ b off, ao = some ⟨b, off, none⟩ ∧ ∀ k, k < xs.length → w.cell? ⟨b, off + k, none⟩ = some (.int .i64 (xs.getD k 0)))

theorem ownI_sees {w : World} {base : Nat} {v : Value} {xs : List Int} (h : w.ownsRow base 3 1 v xs.length (xs.map (fun i => Value.int .i64 i))) : SeesI w v xs := by
  by_cases h0 : xs = []
  · subst h0
    rcases h.2 with ⟨rfl, hn⟩ | ⟨g, cap, cur, rfl, -⟩
    · exact ⟨none, 0, rfl, fun h0 => by simp at h0⟩
    · exact ⟨_, cap, rfl, fun h0 => by simp at h0⟩
  · obtain ⟨g, cap, rfl, -, hc⟩ := own_open h h0
    exact ⟨_, cap, rfl, fun _ => ⟨g, 0, rfl, hc⟩⟩

theorem SeesI.block {w w' : World} {v : Value} {xs : List Int} (h : SeesI w v xs) (hb : Below w.heap.size w w') : SeesI w' v xs := by
  obtain ⟨ao, cap, hv, hc⟩ := h
  refine ⟨ao, cap, hv, fun h0 => ?_⟩
  obtain ⟨b, off, he, hx⟩ := hc h0
  refine ⟨b, off, he, fun k hk => ?_⟩
  exact (hb.cell (p := ⟨b, off + k, none⟩) (World.block_lt_of_cell? w ⟨b, off + k, none⟩ (hx k hk))).trans (hx k hk)

theorem sameInts_len (ao bo : Option Addr) (n m c1 c2 : Nat) (w : World) (hne : n ≠ m) :
    Calls Tryd.prog 30 #[.slice ao n c1, .slice bo m c2] w fun e w' => e = .returned (.bool false) ∧ w' = w := by
  have hq : ((n : Int) != (m : Int)) = true := by simp; omega
  go_enter Tryd.func30, Tryd.ntmps30
  go_wp2
  go_ret
  exact ⟨by first | rfl | trivial, by first | rfl | trivial⟩

theorem sameInts_nil (ao bo : Option Addr) (c1 c2 : Nat) (w : World) :
    Calls Tryd.prog 30 #[.slice ao 0 c1, .slice bo 0 c2] w fun e w' => e = .returned (.bool true) ∧ w' = w := by
  go_enter Tryd.func30, Tryd.ntmps30
  go_wp2
  go_loopw [5] (fun i wr => i = .int .i64 0 ∧ wr = w) (fun _ _ => 0)
  case atStart => exact ⟨rfl, rfl⟩
  case round =>
    obtain ⟨rfl, rfl⟩ := hrel
    go_wp2
    go_ret
    exact ⟨by first | rfl | trivial, by first | rfl | trivial⟩

set_option maxHeartbeats 1000000 in
theorem sameInts_cells (b off b' off' c1 c2 : Nat) (xs ys : List Int) (hl : xs.length = ys.length) (hm : xs.length ≤ maxLen) (w : World)
    (hf : ∀ k, k < xs.length → w.cell? ⟨b, off + k, none⟩ = some (.int .i64 (xs.getD k 0))) (hg : ∀ k, k < ys.length → w.cell? ⟨b', off' + k, none⟩ = some (.int .i64 (ys.getD k 0))) :
    Calls Tryd.prog 30 #[.slice (some ⟨b, off, none⟩) xs.length c1, .slice (some ⟨b', off', none⟩) ys.length c2] w fun e w' => e = .returned (.bool (decide (xs = ys))) ∧ Below w.heap.size w w' := by
  unfold maxLen at hm
  have hq : ((xs.length : Int) != (ys.length : Int)) = false := by simp; omega
  go_enter Tryd.func30, Tryd.ntmps30
  go_wp2
  go_loopw [5] (fun i wr => ∃ k : Nat, k ≤ xs.length ∧ i = .int .i64 k ∧ Hid (xs.take k = ys.take k) ∧ Below w.heap.size w wr)
    (fun i _ => xs.length - (intOf i).toNat)
  case atStart => exact ⟨0, Nat.zero_le _, rfl, by show _ = _; simp, Below.refl _ _⟩
  case round =>
    obtain ⟨k, hk, rfl, Hn, hb⟩ := hrel
    by_cases hlt : k < xs.length
    · have a1 : (k : Int) < xs.length := by omega
      have a2 : (0 : Int) ≤ k := by omega
      have a3 : (k : Int) < ys.length := by omega
      have f0 := hf k hlt
      have g0 := hg k (by omega)
      obtain ⟨x, hx⟩ : ∃ x, xs.getD k 0 = x := ⟨_, rfl⟩
      obtain ⟨y, hy⟩ : ∃ y, ys.getD k 0 = y := ⟨_, rfl⟩
      rw [hx] at f0
      rw [hy] at g0
      have hbb : b < w.heap.size := World.block_lt_of_cell? w ⟨b, off + k, none⟩ f0
      have hbb' : b' < w.heap.size := World.block_lt_of_cell? w ⟨b', off' + k, none⟩ g0
      have q0 : ∀ a, wr.cell? ⟨b, a, none⟩ = w.cell? ⟨b, a, none⟩ := fun a => hb.cell (p := ⟨b, a, none⟩) hbb
      have q1 : ∀ a, wr.cell? ⟨b', a, none⟩ = w.cell? ⟨b', a, none⟩ := fun a => hb.cell (p := ⟨b', a, none⟩) hbb'
      rw [← q0] at f0
      rw [← q1] at g0
      have HB := Lib.hid hb
      clear q0 q1 hbb hbb' hb hf hg
      by_cases hxy : x = y
      · subst hxy
        have Hn2 : Hid (xs.take (k + 1) = ys.take (k + 1)) := by
          show _ = _
          rw [List.take_add_one, List.take_add_one, Hn.out]
          congr 2
          rw [List.getD_eq_getElem?_getD] at hx hy
          rw [List.getElem?_eq_getElem hlt] at hx ⊢
          rw [List.getElem?_eq_getElem (by omega)] at hy ⊢
          simp only [Option.getD_some] at hx hy
          rw [hx, hy]
        clear hx hy
        go_wp2
        go_quiet (fail)
        have HB2 := belowN HB.out nq
        go_wp2
        refine ⟨⟨k + 1, by omega, by go_num, Hn2, HB2⟩, ?_⟩
        simp [intOf]; omega
      · have hne : xs ≠ ys := fun e => hxy (by rw [← hx, ← hy, e])
        have h : (x == y) = false := beq_eq_false_iff_ne.2 hxy
        clear hx hy hxy Hn
        go_wp2
        go_quiet (fail)
        go_wp2
        go_ret
        exact ⟨by simp [hne], belowN HB.out nq⟩
    · have a1 : ¬ (k : Int) < xs.length := by omega
      have a3 : ¬ (k : Int) < ys.length := by omega
      obtain rfl : k = xs.length := by omega
      clear hf hg
      go_wp2
      go_ret
      have h := Hn.out
      rw [List.take_length, hl, List.take_length] at h
      exact ⟨by simp [h], hb⟩

theorem sameInts_sees {v1 v2 : Value} {xs ys : List Int} {w : World} (S1 : SeesI w v1 xs) (S2 : SeesI w v2 ys) (hm : xs.length ≤ maxLen) :
    Calls Tryd.prog 30 #[v1, v2] w fun e w' => e = .returned (.bool (decide (xs = ys))) ∧ Below w.heap.size w w' := by
  obtain ⟨ao, c1, rfl, h1⟩ := S1
  obtain ⟨bo, c2, rfl, h2⟩ := S2
  by_cases hl : xs.length = ys.length
  · rcases Nat.eq_zero_or_pos xs.length with h0 | h0
    · have e1 : xs = [] := List.eq_nil_of_length_eq_zero h0
      have e2 : ys = [] := List.eq_nil_of_length_eq_zero (by omega)
      subst e1 e2
      refine (sameInts_nil ao bo c1 c2 w).mono ?_
      rintro e w' ⟨rfl, rfl⟩
      exact ⟨rfl, Below.refl _ _⟩
    · obtain ⟨b, off, rfl, hc1⟩ := h1 h0
      obtain ⟨b', off', rfl, hc2⟩ := h2 (by omega)
      exact sameInts_cells b off b' off' c1 c2 xs ys hl hm w hc1 hc2
  · refine (sameInts_len ao bo _ _ c1 c2 w hl).mono ?_
    rintro e w' ⟨rfl, rfl⟩
    have : xs ≠ ys := fun e => hl (by rw [e])
    exact ⟨by simp [this], Below.refl _ _⟩

/-- What 'Ports' answers. -/
def portsS (d : Int) : List Int × Int := if 1 ≤ d ∧ d ≤ 3 then (dom8 d, 0) else ([], 2)

theorem hasP_no (d : Int) (h : ¬ (1 ≤ d ∧ d ≤ 3)) : hasP (portsP 24) d = false := by
  have hk : ∀ x ∈ portsP 24, 1 ≤ x.1 ∧ x.1 ≤ 3 := by decide +kernel
  unfold hasP
  rw [List.any_eq_false]
  intro x hx
  have := hk x hx
  simp; omega

theorem ports_sees (d : Int) (w : World) : Calls Tryd.prog 20 #[.int .i64 d] w fun e w' => ∃ v, e = .returned (.tuple #[v, .int .i64 (portsS d).2]) ∧ SeesI w' v (portsS d).1 ∧ Below w.heap.size w w' := by
  by_cases h : 1 ≤ d ∧ d ≤ 3
  · obtain ⟨k, rfl⟩ : ∃ k : Nat, d = k := ⟨d.toNat, by omega⟩
    refine (ports_own k w (by omega) (by omega)).mono ?_
    rintro e w' ⟨hb, hs, g, cap, rfl, hg, hc⟩
    unfold portsS
    rw [if_pos h]
    have hl : (dom8 k).length = 8 := by simp [dom8]
    exact ⟨_, rfl, ⟨_, cap, by rw [hl], fun _ => ⟨g, 0, rfl, by rw [hl]; exact hc⟩⟩, hb⟩
  · refine (ports_any d w).mono ?_
    rintro e w' ⟨hb, hs, hh⟩
    rw [hasP_no d h] at hh
    simp only [Bool.false_eq_true, if_false] at hh
    unfold portsS
    rw [if_neg h]
    exact ⟨_, hh, ⟨none, 0, rfl, fun h0 => by simp at h0⟩, hb⟩
end Go.Proofs.YtaipifjmkbcjjaaDoor
