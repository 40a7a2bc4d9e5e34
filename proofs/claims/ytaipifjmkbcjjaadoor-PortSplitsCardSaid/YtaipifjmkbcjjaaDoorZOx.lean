/- Walks: the reference of ports: Split, Codes; two lists of entries that are the same, compared. -/
import Derived.Test.YtaipifjmkbcjjaaDoorZg7
import Derived.Test.YtaipifjmkbcjjaaDoorZg9
import Derived.Maps.AppendAt
import Derived.Deep.RegionHeld3
import Derived.BigQuiet
namespace Go.Proofs.YtaipifjmkbcjjaaDoor
open Go.RowKit Go.Sort

set_option maxHeartbeats 1000000 in
theorem entry_any (x : Et) (w : World) : Calls Tryd.prog 68 #[.agg x.cs] w fun e w' => e = .returned (.int .i64 (entErr x)) ∧ Below w.heap.size w w' := by
  have hwr := fun W => wrong_any x.p W
  have HB := Lib.hid (below_alloc w (.cells x.cs 57))
  by_cases h2 : x.k = 2
  · have HE : Hid (entErr x = 0) := by show _ = _; unfold entErr; rw [if_pos h2]
    obtain ⟨t, kk, p, dd, cc, uu, vv⟩ := x
    dsimp only at h2
    subst h2
    clear hwr
    go_enter Tryd.func68, Tryd.ntmps68
    go_wp2_with fail
    go_ret
    rw [HE.out]; exact ⟨rfl, HB.out⟩
  · by_cases h1 : x.k = 1
    · have HE : Hid (entErr x = if 0 ≤ x.p ∧ x.p < 24 then 0 else 2) := by show _ = _; unfold entErr; rw [if_neg h2, if_pos h1]
      obtain ⟨t, kk, p, dd, cc, uu, vv⟩ := x
      dsimp only at h1 hwr HE
      subst h1
      clear h2
      by_cases hp : 0 ≤ p ∧ p < 24
      · have hd2 : (!decide (0 ≤ p ∧ p < 24)) = false := by simp; omega
        rw [hd2] at hwr
        have HE2 : Hid (entErr ⟨t, 1, p, dd, cc, uu, vv⟩ = 0) := by have := HE.out; rw [if_pos hp] at this; exact this
        clear hd2 hp
        go_enter Tryd.func68, Tryd.ntmps68
        go_wp2_with (first
          | (go_at_call 64; (refine (hwr _).mono ?_; rintro e w1 ⟨rfl, rfl⟩))
          | fail)
        go_ret
        rw [HE2.out]; exact ⟨rfl, HB.out⟩
      · have hd2 : (!decide (0 ≤ p ∧ p < 24)) = true := by simp; omega
        rw [hd2] at hwr
        have HE2 : Hid (entErr ⟨t, 1, p, dd, cc, uu, vv⟩ = 2) := by have := HE.out; rw [if_neg hp] at this; exact this
        clear hd2 hp
        go_enter Tryd.func68, Tryd.ntmps68
        go_wp2_with (first
          | (go_at_call 64; (refine (hwr _).mono ?_; rintro e w1 ⟨rfl, rfl⟩))
          | fail)
        go_ret
        rw [HE2.out]; exact ⟨rfl, HB.out⟩
    · have HE : Hid (entErr x = 11) := by show _ = _; unfold entErr; rw [if_neg h2, if_neg h1]
      have t1 : (x.k != 1) = true := by simpa using h1
      have t2 : (x.k != 2) = true := by simpa using h2
      obtain ⟨t, kk, p, dd, cc, uu, vv⟩ := x
      dsimp only at t1 t2
      clear h1 h2 hwr
      go_enter Tryd.func68, Tryd.ntmps68
      go_wp2_with fail
      go_ret
      rw [HE.out]; exact ⟨rfl, HB.out⟩

theorem sameEntries_nil (ao bo : Option Addr) (c1 c2 : Nat) (w : World) :
    Calls Tryd.prog 37 #[.slice ao 0 c1, .slice bo 0 c2] w fun e w' => e = .returned (.bool true) ∧ w' = w := by
  go_enter Tryd.func37, Tryd.ntmps37
  go_wp2
  go_loopw [5] (fun i wr => i = .int .i64 0 ∧ wr = w) (fun _ _ => 0)
  case atStart => exact ⟨rfl, rfl⟩
  case round =>
    obtain ⟨rfl, rfl⟩ := hrel
    go_wp2
    go_ret
    exact ⟨by first | rfl | trivial, by first | rfl | trivial⟩

set_option maxHeartbeats 2000000 in
theorem sameEntries_cells (b off b' off' c1 c2 : Nat) (es : List Et) (hm : es.length ≤ 1000) (w : World)
    (hf : ∀ k j u, (es.getD k et0).cs[j]? = some u → k < es.length → w.cell? ⟨b, off + k * 7 + j, none⟩ = some u)
    (hg : ∀ k j u, (es.getD k et0).cs[j]? = some u → k < es.length → w.cell? ⟨b', off' + k * 7 + j, none⟩ = some u) :
    Calls Tryd.prog 37 #[.slice (some ⟨b, off, none⟩) es.length c1, .slice (some ⟨b', off', none⟩) es.length c2] w fun e w' => e = .returned (.bool true) ∧ RowKit.Below w.heap.size w w' := by
  obtain ⟨n, hn⟩ : ∃ n, es.length = n := ⟨_, rfl⟩
  rw [hn] at hm hf hg ⊢
  clear hn
  go_enter Tryd.func37, Tryd.ntmps37
  go_wp2
  go_loopw [5] (fun i wr => ∃ k : Nat, k ≤ n ∧ i = .int .i64 k ∧ RowKit.Below w.heap.size w wr)
    (fun i _ => n - (intOf i).toNat)
  case atStart => exact ⟨0, Nat.zero_le _, rfl, RowKit.Below.refl _ _⟩
  case round =>
    obtain ⟨k, hk, rfl, hb⟩ := hrel
    by_cases hlt : k < n
    · have a1 : (k : Int) < n := by omega
      have a2 : (0 : Int) ≤ k := by omega
      obtain ⟨x, hx⟩ : ∃ x, es.getD k et0 = x := ⟨_, rfl⟩
      have f0 := hf k 0 (.int .i64 x.t) (by rw [hx]; rfl) hlt
      have f1 := hf k 1 (.int .i64 x.k) (by rw [hx]; rfl) hlt
      have f2 := hf k 2 (.int .i64 x.p) (by rw [hx]; rfl) hlt
      have f3 := hf k 3 (.string x.d) (by rw [hx]; rfl) hlt
      have f4 := hf k 4 (.int .i64 x.c) (by rw [hx]; rfl) hlt
      have f5 := hf k 5 (.int .i64 x.u) (by rw [hx]; rfl) hlt
      have f6 := hf k 6 (.int .i64 x.v) (by rw [hx]; rfl) hlt
      have g0 := hg k 0 (.int .i64 x.t) (by rw [hx]; rfl) hlt
      have g1 := hg k 1 (.int .i64 x.k) (by rw [hx]; rfl) hlt
      have g2 := hg k 2 (.int .i64 x.p) (by rw [hx]; rfl) hlt
      have g3 := hg k 3 (.string x.d) (by rw [hx]; rfl) hlt
      have g4 := hg k 4 (.int .i64 x.c) (by rw [hx]; rfl) hlt
      have g5 := hg k 5 (.int .i64 x.u) (by rw [hx]; rfl) hlt
      have g6 := hg k 6 (.int .i64 x.v) (by rw [hx]; rfl) hlt
      clear hf hg
      have hbb : b < w.heap.size := World.block_lt_of_cell? w ⟨b, off + k * 7 + 0, none⟩ f0
      have hbb' : b' < w.heap.size := World.block_lt_of_cell? w ⟨b', off' + k * 7 + 0, none⟩ g0
      have q0 : ∀ a, wr.cell? ⟨b, a, none⟩ = w.cell? ⟨b, a, none⟩ := fun a => hb.cell (p := ⟨b, a, none⟩) hbb
      have q1 : ∀ a, wr.cell? ⟨b', a, none⟩ = w.cell? ⟨b', a, none⟩ := fun a => hb.cell (p := ⟨b', a, none⟩) hbb'
      simp only [← q0] at f0 f1 f2 f3 f4 f5 f6
      simp only [← q1] at g0 g1 g2 g3 g4 g5 g6
      rw [Nat.add_zero] at f0 g0
      have HB := Lib.hid hb
      clear q0 q1 hbb hbb' hb hx
      obtain ⟨t, kk, p, dd, cc, uu, vv⟩ := x
      dsimp only at f0 f1 f2 f3 f4 f5 f6 g0 g1 g2 g3 g4 g5 g6
      go_wp2
      go_quiet (fail)
      have HB2 := belowN HB.out nq
      go_wp2
      refine ⟨⟨k + 1, by omega, by go_num, HB2⟩, ?_⟩
      simp [intOf]; omega
    · have a1 : ¬ (k : Int) < n := by omega
      obtain rfl : k = n := by omega
      clear hf hg
      go_wp2
      go_ret
      exact ⟨by first | rfl | trivial, hb⟩

theorem sameEntries_sees {v1 v2 : Value} {es : List Et} {w : World} (S1 : SeesE w v1 es) (S2 : SeesE w v2 es) (hm : es.length ≤ 1000) :
    Calls Tryd.prog 37 #[v1, v2] w fun e w' => e = .returned (.bool true) ∧ RowKit.Below w.heap.size w w' := by
  obtain ⟨ao, c1, rfl, h1⟩ := S1
  obtain ⟨bo, c2, rfl, h2⟩ := S2
  rcases Nat.eq_zero_or_pos es.length with h0 | h0
  · have e1 : es = [] := List.eq_nil_of_length_eq_zero h0
    subst e1
    refine (sameEntries_nil ao bo c1 c2 w).mono ?_
    rintro e w' ⟨rfl, rfl⟩
    exact ⟨rfl, RowKit.Below.refl _ _⟩
  · obtain ⟨b, off, rfl, hc1⟩ := h1 h0
    obtain ⟨b', off', rfl, hc2⟩ := h2 h0
    exact sameEntries_cells b off b' off' c1 c2 es hm w hc1 hc2

end Go.Proofs.YtaipifjmkbcjjaaDoor
