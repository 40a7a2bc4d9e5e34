/- Walks: Has, PortParts. -/
import Derived.Test.YtaipifjmkbcjjaaDoorU
namespace Go.Proofs.YtaipifjmkbcjjaaDoor
open Go.RowKit Go.WideMaps Go.Maps Go.Sort

/-- The n integers at a block. -/
def hasI (xs : List Int) (n : Int) : Bool := xs.any (fun x => x == n)
theorem hasI_take (xs : List Int) (n : Int) (k : Nat) (hk : k < xs.length) : hasI (xs.take (k + 1)) n = (hasI (xs.take k) n || (xs.getD k 0 == n)) := by
  unfold hasI
  rw [show xs.take (k + 1) = xs.take k ++ [xs[k]] by rw [List.take_add_one, List.getElem?_eq_getElem hk]; rfl, List.any_append]
  simp [List.getD_eq_getElem?_getD, List.getElem?_eq_getElem hk]

theorem has_any (b off cap : Nat) (xs : List Int) (n : Int) (w : World) (hc : ∀ k, k < xs.length → w.cell? ⟨b, off + k, none⟩ = some (.int .i64 (xs.getD k 0))) (hl : xs.length ≤ maxLen) :
    Calls Tryd.prog 21 #[.slice (some ⟨b, off, none⟩) xs.length cap, .int .i64 n] w fun e w' => e = .returned (.bool (hasI xs n)) ∧ w = w' := by
  unfold maxLen at hl
  go_enter Tryd.func21, Tryd.ntmps21
  go_wp2
  go_loopw [5] (fun i wr => ∃ k : Nat, k ≤ xs.length ∧ i = .int .i64 k ∧ hasI (xs.take k) n = false ∧ w = wr)
    (fun i _ => xs.length - (intOf i).toNat)
  case atStart => exact ⟨0, Nat.zero_le _, rfl, rfl, rfl⟩
  case round =>
    obtain ⟨k, hk, rfl, hn, rfl⟩ := hrel
    have hcx : (k : Int) < xs.length → w.cell? ⟨b, off + k, none⟩ = some (.int .i64 (xs.getD k 0)) := fun _ => hc k (by omega)
    have hst := hasI_take xs n k
    go_wp2
    · rename_i h1 h2
      go_ret
      refine ⟨bool_ret ?_, rfl⟩
      symm; unfold hasI; rw [List.any_eq_true]
      exact ⟨xs[k], List.getElem_mem (by assumption), h2⟩
    · rename_i h2
      have h1 : k < xs.length := by assumption
      go_roundw
      case rel =>
        refine ⟨k + 1, by omega, by go_num, ?_, ?_⟩
        · rw [hst h1, hn]
          simpa [List.getD_eq_getElem?_getD, List.getElem?_eq_getElem h1] using h2
        · trivial
      case measure => simp [intOf]; omega
    · have hk' : k = xs.length := by omega
      subst hk'
      go_ret
      rw [List.take_length] at hn
      exact ⟨bool_ret hn.symm, rfl⟩

/-- What a row of our own is, opened. -/
theorem own_open {w : World} {base n : Nat} {v : Value} {xs : List Int} (h : w.ownsRow base 3 1 v n (xs.map (fun i => Value.int .i64 i))) (h0 : xs ≠ []) :
    ∃ g cap, v = .slice (some ⟨g, 0, none⟩) xs.length cap ∧ base ≤ g ∧ (∀ k, k < xs.length → w.cell? ⟨g, 0 + k, none⟩ = some (.int .i64 (xs.getD k 0))) := by
  have hn : xs.length = n := by have := h.1; simpa using this
  rcases h.2 with ⟨rfl, rfl⟩ | ⟨g, cap, cur, rfl, hbg, hg, hnc, hcm, hcs, htake⟩
  · exact absurd (List.eq_nil_of_length_eq_zero hn) h0
  · refine ⟨g, cap, by rw [hn], hbg, fun k hk => ?_⟩
    have := h.cells (g := g) rfl k (.int .i64 (xs.getD k 0)) (by simp [List.getD_eq_getElem?_getD, List.getElem?_eq_getElem hk])
    rw [Nat.zero_add]; revert this; rcases k with _ | k <;> simp [Addr.add]

def dom8 (d : Int) : List Int := (List.range 8).map (fun (i : Nat) => 8 * (d - 1) + (i : Int))

theorem ports_dom : ∀ d : Nat, d < 4 → 1 ≤ d → hasP (portsP 24) d = true ∧ atP (portsP 24) d = (dom8 d).map (fun i => Value.int .i64 i) := by
  intro d h1 h2
  obtain rfl | rfl | rfl : d = 1 ∨ d = 2 ∨ d = 3 := by omega
  all_goals exact ⟨by decide +kernel, by kernel_rfl⟩

theorem ports_own (d : Nat) (w : World) (h1 : 1 ≤ d) (h2 : d < 4) :
    Calls Tryd.prog 20 #[.int .i64 d] w fun e w' => Below w.heap.size w w' ∧ w.heap.size ≤ w'.heap.size ∧
      ∃ g cap, e = .returned (.tuple #[.slice (some ⟨g, 0, none⟩) 8 cap, .int .i64 0]) ∧ w.heap.size ≤ g ∧ (∀ k, k < 8 → w'.cell? ⟨g, 0 + k, none⟩ = some (.int .i64 ((dom8 d).getD k 0))) := by
  refine (ports_any d w).mono ?_
  rintro e w' ⟨hb, hs, h⟩
  obtain ⟨hp, ha⟩ := ports_dom d h2 h1
  rw [hp, if_pos rfl, ha] at h
  obtain ⟨v, n, rfl, ho⟩ := h
  have hl : (dom8 d).length = 8 := by simp [dom8]
  obtain ⟨g, cap, rfl, hg, hc⟩ := own_open ho (by intro e; rw [e] at hl; simp at hl)
  rw [hl] at hc ⊢
  exact ⟨hb, hs, g, cap, rfl, by omega, hc⟩

theorem parts_plain : ∀ p : Nat, p < 24 → ∀ d : Nat, d < 4 → 1 ≤ d → hasI (dom8 d) (p : Int) = decide ((d : Int) = 1 + (p : Int) / 8) := by decide +kernel

theorem PortParts_any (n : Int) (w : World) (hg : Glob w) :
    Calls Tryd.prog 3 #[.int .i64 n] w fun e w' => e = .returned (.bool true) ∧ Below w.heap.size w w' := by
  have hp0 := Int.emod_nonneg n (show (24 : Int) ≠ 0 by decide)
  have hp1 := Int.emod_lt_of_pos n (show (0 : Int) < 24 by decide)
  generalize hP : n % 24 = p at hp0 hp1
  have hpl := Lib.hid parts_plain
  have hmo : ∀ W, Calls Tryd.prog 18 #[.int .i64 n, .int .i64 24] W fun e w' => e = .returned (.int .i64 p) ∧ W = w' := fun W => by
    rw [← hP]; exact mod_any n 24 W (by decide) (by decide)
  clear hP
  go_enter Tryd.func3, Tryd.ntmps3
  go_wp2_with (first
      | (go_at_call 18; refine (hmo _).mono ?_; rintro e w1 ⟨rfl, rfl⟩)
      | (go_at_call 19; refine (domain_ok _ _ hp0 hp1).mono ?_; rintro e w1 ⟨rfl, rfl⟩)
      | fail)
  go_loopw [6] (fun i wr => ∃ k : Nat, k ≤ 4 ∧ 1 ≤ k ∧ i = .int .i64 k ∧ Below w.heap.size w wr ∧ w.heap.size ≤ wr.heap.size)
    (fun i _ => 4 - (intOf i).toNat)
  case atStart => exact ⟨1, by omega, by omega, rfl, Below.refl _ _, Nat.le_refl _⟩
  case round =>
    obtain ⟨k, hk, hk1, rfl, hb, hs⟩ := hrel
    have hpo : (k : Int) ≤ 3 → ∀ W, _ := fun h W => ports_own k W hk1 (by omega)
    have hha : (k : Int) ≤ 3 → ∀ (W : World) (g cap : Nat), (∀ j, j < 8 → W.cell? ⟨g, 0 + j, none⟩ = some (.int .i64 ((dom8 k).getD j 0))) →
        Calls Tryd.prog 21 #[.slice (some ⟨g, 0, none⟩) 8 cap, .int .i64 p] W fun e w' => e = .returned (.bool (decide ((k : Int) = 1 + p / 8))) ∧ W = w' := fun h W g cap hc => by
      have h1 := has_any g 0 cap (dom8 k) p W hc (by simp [dom8, maxLen])
      have h2 := parts_plain p.toNat (by omega) k (by omega) hk1
      rw [show ((p.toNat : Nat) : Int) = p by omega] at h2
      rw [h2] at h1; exact h1
    have haw : ∀ W : World, Below w.heap.size w W → _ := fun W h => awake_any W (hg.next h)
    go_wp2_with (first
      | (go_at_call 20; refine (hpo (by assumption) _).mono ?_; rintro e w1 ⟨hb1, hs1, g, cap, rfl, hgb, hc⟩)
      | (go_at_call 21; refine (hha (by assumption) _ g cap hc).mono ?_; rintro e w2 ⟨rfl, rfl⟩)
      | (go_at_call 22; refine (haw _ hb).mono ?_; rintro e w2 ⟨rfl, hb2⟩)
      | fail)
    · go_roundw
      case rel => exact ⟨k + 1, by omega, by omega, by go_num, Below.trans hb (Below.mono hb1 hs), Nat.le_trans hs hs1⟩
      case measure => simp [intOf]; omega
    · go_ret
      exact ⟨by first | rfl | trivial, Below.trans hb (Below.mono hb2 hs)⟩
end Go.Proofs.YtaipifjmkbcjjaaDoor
