/- Walks: Ports, Has. -/
import Derived.Test.YtaipifjmkbcjjaaDoorZT
import Derived.Test.YtaipifjmkbcjjaaDoorZg2
import Derived.BigQuiet
namespace Go.Proofs.YtaipifjmkbcjjaaDoor
open Go.RowKit Go.WideMaps Go.Maps Go.Sort

/-- Of a row, what is plain. -/
def proj (rows : List Rw) : List (Int × List Value) := rows.map (fun r => (r.k, r.xs))
def atP (ps : List (Int × List Value)) (d : Int) : List Value := ((ps.find? (fun r => r.1 == d)).getD (d, [])).2
def hasP (ps : List (Int × List Value)) (d : Int) : Bool := ps.any (fun r => r.1 == d)
def putP (ps : List (Int × List Value)) (x : Int × List Value) : List (Int × List Value) :=
  if hasP ps x.1 then ps.map (fun r => if r.1 = x.1 then x else r) else ps ++ [x]
def addP (ps : List (Int × List Value)) (d : Int) (v : List Value) : List (Int × List Value) := putP ps (d, atP ps d ++ v)

theorem proj_at (rows : List Rw) (d : Int) : (rowAt rows d).xs = atP (proj rows) d := by
  induction rows with
  | nil => rfl
  | cons r rows ih =>
    unfold rowAt atP proj at *
    simp only [List.map_cons, List.find?_cons]
    cases h : (r.k == d) <;> simp_all
theorem proj_has (rows : List Rw) (d : Int) : hasRow rows d = hasP (proj rows) d := by
  unfold hasRow hasP proj; rw [List.any_map]; rfl
theorem proj_put (rows : List Rw) (x : Rw) : proj (putRow' rows x) = putP (proj rows) (x.k, x.xs) := by
  unfold putRow' putP
  rw [proj_has]
  split
  · unfold proj
    rw [List.map_map, List.map_map]
    apply List.map_congr_left
    intro r _
    simp only [Function.comp]
    split <;> rfl
  · unfold proj; simp

/-- The rows behind k rounds of the ports' loop. -/
def portsP : Nat → List (Int × List Value)
  | 0 => []
  | k + 1 => addP (portsP k) (1 + (k : Int) / 8) [.int .i64 k]

theorem Tr.info3 : (Tryd.prog.info? 3).map (fun i => (i.zero, i.size, i.bytes)) = some (some (.int .i64 0), 1, 8) := by kernel_rfl
theorem zero26 (w : World) : (zeroValue 26).run Tryd.prog w = .ok (.slice none 0 0) w := by kernel_rfl

theorem wf_rows (rows : List Rw) {w base E size m} (g : GM w base E size m rows) (d : Int) : (atP (proj rows) d).length = (rowAt rows d).n * size := by
  rw [← proj_at]; exact (g.ownAt d).1

theorem portsP_len : ∀ k : Nat, k < 24 → (atP (portsP k) (1 + (k : Int) / 8)).length ≤ 24 := by
  decide +kernel

theorem below_grownO {B : Nat} {w0 w w' : World} {row : Option Nat} (h : Below B w0 w) (hg : w.grownBy w' row) (hB : ∀ c, row = some c → B ≤ c) (hs : B ≤ w.heap.size) : Below B w0 w' :=
  h.grown hg hs hB

set_option maxRecDepth 100000 in
theorem ports_any (d : Int) (w : World) :
    Calls Tryd.prog 20 #[.int .i64 d] w fun e w' => Below w.heap.size w w' ∧ w.heap.size ≤ w'.heap.size ∧
      if hasP (portsP 24) d then ∃ v n, e = .returned (.tuple #[v, .int .i64 0]) ∧ w'.ownsRow (w.heap.size + 1) 3 1 v n (atP (portsP 24) d)
      else e = .returned (.tuple #[.slice none 0 0, .int .i64 2]) := by
  have hmm := @run_makeMap Tryd.prog
  obtain ⟨i0, hi, hz0, hz1, hz2⟩ := info_parts Tr.info3
  go_enter Tryd.func20, Tryd.ntmps20
  go_wp2
  go_loopw [11] (fun i wr => ∃ (k : Nat) (rows : List Rw), k ≤ 24 ∧ i = .int .i64 k ∧ GM wr (w.heap.size + 1) 3 1 w.heap.size rows ∧ proj rows = portsP k ∧ Below w.heap.size w wr ∧ w.heap.size + 1 ≤ wr.heap.size)
    (fun i _ => 24 - (intOf i).toNat)
  case atStart => exact ⟨0, [], Nat.zero_le _, rfl, GM.made _ _ _, rfl, (Below.refl _ _).alloc (Nat.le_refl _) _, by simp⟩
  case round =>
    obtain ⟨k, rows, hk, rfl, hg, hp, hnx, hws⟩ := hrel
    have hdo : (k : Int) < 24 → ∀ W, Calls Tryd.prog 19 #[.int .i64 k] W fun e w' => e = .returned (.tuple #[.int .i64 (1 + (k : Int) / 8), .int .i64 0]) ∧ W = w' := fun h W => domain_ok k W (by omega) (by omega)
    have hln : (k : Int) < 24 → (rowAt rows (1 + (k : Int) / 8)).n ≤ 24 := fun h => by
      have h1 := wf_rows rows hg (1 + (k : Int) / 8)
      have h2 := portsP_len k (by omega)
      rw [hp] at h1; omega
    have hrow := hg.ownAt (1 + (k : Int) / 8)
    go_wp2_with (first
      | (go_at_call 19; (refine (hdo (by assumption) _).mono ?_; rintro e w1 ⟨rfl, rfl⟩))
      | (at_lookup; refine wpList_lookup_gm rfl _ _ 92 3 26 false rfl (by kernel_rfl) (by kernel_rfl) (zero26 _) hg rfl _ rfl ?_; simp only [Bool.false_eq_true, if_false])
      | (at_lookup; (refine wpList_lookup_gm rfl _ _ 92 3 26 true rfl (by kernel_rfl) (by kernel_rfl) (zero26 _) hg rfl _ rfl ?_; simp only [if_true]))
      | (at_builtin; (refine wpList_append_own_at _ rfl _ _ 26 rfl (w.heap.size + 1) 3 i0 (.int .i64 0) 1 8 (by kernel_rfl) hi hz0 hz1 hz2 rfl (by decide) _ _ _ rfl (hrow.alloc _) ⟨wr.heap.size, 0, none⟩ 1 1 [.int .i64 k] rfl rfl (cell_one_new _ _ _) (ints_oneCell .i64 [(k : Int)]) (by have := hln (by assumption); unfold maxLen; omega) (by have := hln (by assumption); omega) (by simp; omega) ?_; intro v' w1 hown' hgrow hnil hloc))
      | (at_mapUpdate; (refine wpList_update_gm rfl _ _ _ 92 3 26 rfl (by kernel_rfl) (by kernel_rfl) hg rfl ⟨1 + (k : Int) / 8, v', _, _⟩ rfl rfl hws ((World.grownBy_alloc _ _ _).trans hgrow) hown' (hloc.imp id (fun h => ⟨_, h, by simp⟩)) ?_; intro w2 hg2 hgrow2))
      | fail)
    · have hall := (World.grownBy_alloc wr _ _).trans hgrow
      have hb1 := below_grownO hnx hall (fun c h => by have := (hrow.lt c h).1; omega) (by omega)
      go_roundw
      case rel =>
        refine ⟨k + 1, _, by omega, by go_num, hg2, ?_, below_grown hb1 hgrow2 (Nat.le_refl _) (Nat.le_trans (by omega) hall.size), Nat.le_trans hws (Nat.le_trans hall.size hgrow2.size)⟩
        rw [proj_put, proj_at, hp]; rfl
      case measure => simp [intOf]; omega
    all_goals
      go_ret2
      have hk' : k = 24 := by omega
      subst hk'
      have hH : hasRow rows d = hasP (portsP 24) d := by rw [proj_has, hp]
      refine ⟨hnx, by omega, ?_⟩
      first
      | (exfalso; simp_all; done)
      | exact rfl
      | exact ⟨_, rfl, _, by rw [← hp, ← proj_at]; exact hg.ownAt d⟩
end Go.Proofs.YtaipifjmkbcjjaaDoor

/- Walks: Has, PortParts. -/
namespace Go.Proofs.YtaipifjmkbcjjaaDoor
open Go.RowKit Go.WideMaps Go.Maps Go.Sort

/-- The n integers at a block. -/
def hasI (xs : List Int) (n : Int) : Bool := xs.any (fun x => x == n)
theorem hasI_take (xs : List Int) (n : Int) (k : Nat) (hk : k < xs.length) : hasI (xs.take (k + 1)) n = (hasI (xs.take k) n || (xs.getD k 0 == n)) := by
  unfold hasI
  rw [show xs.take (k + 1) = xs.take k ++ [xs[k]] by rw [List.take_add_one, List.getElem?_eq_getElem hk]; rfl, List.any_append]
  simp [List.getD_eq_getElem?_getD, List.getElem?_eq_getElem hk]

theorem has_any (b off cap : Nat) (xs : List Int) (n : Int) (w : World) (hc : ∀ k, k < xs.length → w.cell? ⟨b, off + k, none⟩ = some (.int .i64 (xs.getD k 0))) (hl : xs.length ≤ maxLen) :
    Calls Tryd.prog 21 #[.slice (some ⟨b, off, none⟩) xs.length cap, .int .i64 n] w fun e w' => e = .returned (.bool (hasI xs n)) ∧ w = w' := by
  unfold maxLen at hl
  go_enter Tryd.func21, Tryd.ntmps21
  go_wp2
  go_loopw [5] (fun i wr => ∃ k : Nat, k ≤ xs.length ∧ i = .int .i64 k ∧ hasI (xs.take k) n = false ∧ w = wr)
    (fun i _ => xs.length - (intOf i).toNat)
  case atStart => exact ⟨0, Nat.zero_le _, rfl, rfl, rfl⟩
  case round =>
    obtain ⟨k, hk, rfl, hn, rfl⟩ := hrel
    have hcx : (k : Int) < xs.length → w.cell? ⟨b, off + k, none⟩ = some (.int .i64 (xs.getD k 0)) := fun _ => hc k (by omega)
    have hst := hasI_take xs n k
    go_wp2
    · rename_i h1 h2
      go_ret
      refine ⟨bool_ret ?_, rfl⟩
      symm; unfold hasI; rw [List.any_eq_true]
      exact ⟨xs[k], List.getElem_mem (by assumption), h2⟩
    · rename_i h2
      have h1 : k < xs.length := by assumption
      go_roundw
      case rel =>
        refine ⟨k + 1, by omega, by go_num, ?_, ?_⟩
        · rw [hst h1, hn]
          simpa [List.getD_eq_getElem?_getD, List.getElem?_eq_getElem h1] using h2
        · trivial
      case measure => simp [intOf]; omega
    · have hk' : k = xs.length := by omega
      subst hk'
      go_ret
      rw [List.take_length] at hn
      exact ⟨bool_ret hn.symm, rfl⟩

/-- What a row of our own is, opened. -/
theorem own_open {w : World} {base n : Nat} {v : Value} {xs : List Int} (h : w.ownsRow base 3 1 v n (xs.map (fun i => Value.int .i64 i))) (h0 : xs ≠ []) :
    ∃ g cap, v = .slice (some ⟨g, 0, none⟩) xs.length cap ∧ base ≤ g ∧ (∀ k, k < xs.length → w.cell? ⟨g, 0 + k, none⟩ = some (.int .i64 (xs.getD k 0))) := by
  have hn : xs.length = n := by have := h.1; simpa using this
  rcases h.2 with ⟨rfl, rfl⟩ | ⟨g, cap, cur, rfl, hbg, hg, hnc, hcm, hcs, htake⟩
  · exact absurd (List.eq_nil_of_length_eq_zero hn) h0
  · refine ⟨g, cap, by rw [hn], hbg, fun k hk => ?_⟩
    have := h.cells (g := g) rfl k (.int .i64 (xs.getD k 0)) (by simp [List.getD_eq_getElem?_getD, List.getElem?_eq_getElem hk])
    rw [Nat.zero_add]; revert this; rcases k with _ | k <;> simp [Addr.add]

def dom8 (d : Int) : List Int := (List.range 8).map (fun (i : Nat) => 8 * (d - 1) + (i : Int))

theorem ports_dom : ∀ d : Nat, d < 4 → 1 ≤ d → hasP (portsP 24) d = true ∧ atP (portsP 24) d = (dom8 d).map (fun i => Value.int .i64 i) := by
  intro d h1 h2
  obtain rfl | rfl | rfl : d = 1 ∨ d = 2 ∨ d = 3 := by omega
  all_goals exact ⟨by decide +kernel, by kernel_rfl⟩

theorem ports_own (d : Nat) (w : World) (h1 : 1 ≤ d) (h2 : d < 4) :
    Calls Tryd.prog 20 #[.int .i64 d] w fun e w' => Below w.heap.size w w' ∧ w.heap.size ≤ w'.heap.size ∧
      ∃ g cap, e = .returned (.tuple #[.slice (some ⟨g, 0, none⟩) 8 cap, .int .i64 0]) ∧ w.heap.size ≤ g ∧ (∀ k, k < 8 → w'.cell? ⟨g, 0 + k, none⟩ = some (.int .i64 ((dom8 d).getD k 0))) := by
  refine (ports_any d w).mono ?_
  rintro e w' ⟨hb, hs, h⟩
  obtain ⟨hp, ha⟩ := ports_dom d h2 h1
  rw [hp, if_pos rfl, ha] at h
  obtain ⟨v, n, rfl, ho⟩ := h
  have hl : (dom8 d).length = 8 := by simp [dom8]
  obtain ⟨g, cap, rfl, hg, hc⟩ := own_open ho (by intro e; rw [e] at hl; simp at hl)
  rw [hl] at hc ⊢
  exact ⟨hb, hs, g, cap, rfl, by omega, hc⟩

theorem parts_plain : ∀ p : Nat, p < 24 → ∀ d : Nat, d < 4 → 1 ≤ d → hasI (dom8 d) (p : Int) = decide ((d : Int) = 1 + (p : Int) / 8) := by decide +kernel

theorem PortParts_any (n : Int) (w : World) (hg : Glob w) :
    Calls Tryd.prog 3 #[.int .i64 n] w fun e w' => e = .returned (.bool true) ∧ Below w.heap.size w w' := by
  have hp0 := Int.emod_nonneg n (show (24 : Int) ≠ 0 by decide)
  have hp1 := Int.emod_lt_of_pos n (show (0 : Int) < 24 by decide)
  generalize hP : n % 24 = p at hp0 hp1
  have hpl := Lib.hid parts_plain
  have hmo : ∀ W, Calls Tryd.prog 18 #[.int .i64 n, .int .i64 24] W fun e w' => e = .returned (.int .i64 p) ∧ W = w' := fun W => by
    rw [← hP]; exact mod_any n 24 W (by decide) (by decide)
  clear hP
  go_enter Tryd.func3, Tryd.ntmps3
  go_wp2_with (first
      | (go_at_call 18; refine (hmo _).mono ?_; rintro e w1 ⟨rfl, rfl⟩)
      | (go_at_call 19; refine (domain_ok _ _ hp0 hp1).mono ?_; rintro e w1 ⟨rfl, rfl⟩)
      | fail)
  go_loopw [6] (fun i wr => ∃ k : Nat, k ≤ 4 ∧ 1 ≤ k ∧ i = .int .i64 k ∧ Below w.heap.size w wr ∧ w.heap.size ≤ wr.heap.size)
    (fun i _ => 4 - (intOf i).toNat)
  case atStart => exact ⟨1, by omega, by omega, rfl, Below.refl _ _, Nat.le_refl _⟩
  case round =>
    obtain ⟨k, hk, hk1, rfl, hb, hs⟩ := hrel
    have hpo : (k : Int) ≤ 3 → ∀ W, _ := fun h W => ports_own k W hk1 (by omega)
    have hha : (k : Int) ≤ 3 → ∀ (W : World) (g cap : Nat), (∀ j, j < 8 → W.cell? ⟨g, 0 + j, none⟩ = some (.int .i64 ((dom8 k).getD j 0))) →
        Calls Tryd.prog 21 #[.slice (some ⟨g, 0, none⟩) 8 cap, .int .i64 p] W fun e w' => e = .returned (.bool (decide ((k : Int) = 1 + p / 8))) ∧ W = w' := fun h W g cap hc => by
      have h1 := has_any g 0 cap (dom8 k) p W hc (by simp [dom8, maxLen])
      have h2 := parts_plain p.toNat (by omega) k (by omega) hk1
      rw [show ((p.toNat : Nat) : Int) = p by omega] at h2
      rw [h2] at h1; exact h1
    have haw : ∀ W : World, Below w.heap.size w W → _ := fun W h => awake_any W (hg.next h)
    go_wp2_with (first
      | (go_at_call 20; refine (hpo (by assumption) _).mono ?_; rintro e w1 ⟨hb1, hs1, g, cap, rfl, hgb, hc⟩)
      | (go_at_call 21; refine (hha (by assumption) _ g cap hc).mono ?_; rintro e w2 ⟨rfl, rfl⟩)
      | (go_at_call 22; refine (haw _ hb).mono ?_; rintro e w2 ⟨rfl, hb2⟩)
      | fail)
    · go_roundw
      case rel => exact ⟨k + 1, by omega, by omega, by go_num, Below.trans hb (Below.mono hb1 hs), Nat.le_trans hs hs1⟩
      case measure => simp [intOf]; omega
    · go_ret
      exact ⟨by first | rfl | trivial, Below.trans hb (Below.mono hb2 hs)⟩
end Go.Proofs.YtaipifjmkbcjjaaDoor

/- Walks: two lists of integers, compared. -/
namespace Go.Proofs.YtaipifjmkbcjjaaDoor
open Go.RowKit Go.Sort

/-- A slice's value that reads as some integers. -/
def SeesI (w : World) (v : Value) (xs : List Int) : Prop :=
  ∃ ao cap, v = .slice ao xs.length cap ∧ (0 < xs.length → ∃ b off, ao = some ⟨b, off, none⟩ ∧ ∀ k, k < xs.length → w.cell? ⟨b, off + k, none⟩ = some (.int .i64 (xs.getD k 0)))

theorem ownI_sees {w : World} {base : Nat} {v : Value} {xs : List Int} (h : w.ownsRow base 3 1 v xs.length (xs.map (fun i => Value.int .i64 i))) : SeesI w v xs := by
  by_cases h0 : xs = []
  · subst h0
    rcases h.2 with ⟨rfl, hn⟩ | ⟨g, cap, cur, rfl, -⟩
    · exact ⟨none, 0, rfl, fun h0 => by simp at h0⟩
    · exact ⟨_, cap, rfl, fun h0 => by simp at h0⟩
  · obtain ⟨g, cap, rfl, -, hc⟩ := own_open h h0
    exact ⟨_, cap, rfl, fun _ => ⟨g, 0, rfl, hc⟩⟩

theorem SeesI.block {w w' : World} {v : Value} {xs : List Int} (h : SeesI w v xs) (hb : Below w.heap.size w w') : SeesI w' v xs := by
  obtain ⟨ao, cap, hv, hc⟩ := h
  refine ⟨ao, cap, hv, fun h0 => ?_⟩
  obtain ⟨b, off, he, hx⟩ := hc h0
  refine ⟨b, off, he, fun k hk => ?_⟩
  exact (hb.cell (p := ⟨b, off + k, none⟩) (World.block_lt_of_cell? w ⟨b, off + k, none⟩ (hx k hk))).trans (hx k hk)

theorem sameInts_len (ao bo : Option Addr) (n m c1 c2 : Nat) (w : World) (hne : n ≠ m) :
    Calls Tryd.prog 30 #[.slice ao n c1, .slice bo m c2] w fun e w' => e = .returned (.bool false) ∧ w' = w := by
  have hq : ((n : Int) != (m : Int)) = true := by simp; omega
  go_enter Tryd.func30, Tryd.ntmps30
  go_wp2
  go_ret
  exact ⟨by first | rfl | trivial, by first | rfl | trivial⟩

theorem sameInts_nil (ao bo : Option Addr) (c1 c2 : Nat) (w : World) :
    Calls Tryd.prog 30 #[.slice ao 0 c1, .slice bo 0 c2] w fun e w' => e = .returned (.bool true) ∧ w' = w := by
  go_enter Tryd.func30, Tryd.ntmps30
  go_wp2
  go_loopw [5] (fun i wr => i = .int .i64 0 ∧ wr = w) (fun _ _ => 0)
  case atStart => exact ⟨rfl, rfl⟩
  case round =>
    obtain ⟨rfl, rfl⟩ := hrel
    go_wp2
    go_ret
    exact ⟨by first | rfl | trivial, by first | rfl | trivial⟩

set_option maxHeartbeats 1000000 in
theorem sameInts_cells (b off b' off' c1 c2 : Nat) (xs ys : List Int) (hl : xs.length = ys.length) (hm : xs.length ≤ maxLen) (w : World)
    (hf : ∀ k, k < xs.length → w.cell? ⟨b, off + k, none⟩ = some (.int .i64 (xs.getD k 0))) (hg : ∀ k, k < ys.length → w.cell? ⟨b', off' + k, none⟩ = some (.int .i64 (ys.getD k 0))) :
    Calls Tryd.prog 30 #[.slice (some ⟨b, off, none⟩) xs.length c1, .slice (some ⟨b', off', none⟩) ys.length c2] w fun e w' => e = .returned (.bool (decide (xs = ys))) ∧ Below w.heap.size w w' := by
  unfold maxLen at hm
  have hq : ((xs.length : Int) != (ys.length : Int)) = false := by simp; omega
  go_enter Tryd.func30, Tryd.ntmps30
  go_wp2
  go_loopw [5] (fun i wr => ∃ k : Nat, k ≤ xs.length ∧ i = .int .i64 k ∧ Hid (xs.take k = ys.take k) ∧ Below w.heap.size w wr)
    (fun i _ => xs.length - (intOf i).toNat)
  case atStart => exact ⟨0, Nat.zero_le _, rfl, by show _ = _; simp, Below.refl _ _⟩
  case round =>
    obtain ⟨k, hk, rfl, Hn, hb⟩ := hrel
    by_cases hlt : k < xs.length
    · have a1 : (k : Int) < xs.length := by omega
      have a2 : (0 : Int) ≤ k := by omega
      have a3 : (k : Int) < ys.length := by omega
      have f0 := hf k hlt
      have g0 := hg k (by omega)
      obtain ⟨x, hx⟩ : ∃ x, xs.getD k 0 = x := ⟨_, rfl⟩
      obtain ⟨y, hy⟩ : ∃ y, ys.getD k 0 = y := ⟨_, rfl⟩
      rw [hx] at f0
      rw [hy] at g0
      have hbb : b < w.heap.size := World.block_lt_of_cell? w ⟨b, off + k, none⟩ f0
      have hbb' : b' < w.heap.size := World.block_lt_of_cell? w ⟨b', off' + k, none⟩ g0
      have q0 : ∀ a, wr.cell? ⟨b, a, none⟩ = w.cell? ⟨b, a, none⟩ := fun a => hb.cell (p := ⟨b, a, none⟩) hbb
      have q1 : ∀ a, wr.cell? ⟨b', a, none⟩ = w.cell? ⟨b', a, none⟩ := fun a => hb.cell (p := ⟨b', a, none⟩) hbb'
      rw [← q0] at f0
      rw [← q1] at g0
      have HB := Lib.hid hb
      clear q0 q1 hbb hbb' hb hf hg
      by_cases hxy : x = y
      · subst hxy
        have Hn2 : Hid (xs.take (k + 1) = ys.take (k + 1)) := by
          show _ = _
          rw [List.take_add_one, List.take_add_one, Hn.out]
          congr 2
          rw [List.getD_eq_getElem?_getD] at hx hy
          rw [List.getElem?_eq_getElem hlt] at hx ⊢
          rw [List.getElem?_eq_getElem (by omega)] at hy ⊢
          simp only [Option.getD_some] at hx hy
          rw [hx, hy]
        clear hx hy
        go_wp2
        go_quiet (fail)
        have HB2 := belowN HB.out nq
        go_wp2
        refine ⟨⟨k + 1, by omega, by go_num, Hn2, HB2⟩, ?_⟩
        simp [intOf]; omega
      · have hne : xs ≠ ys := fun e => hxy (by rw [← hx, ← hy, e])
        have h : (x == y) = false := beq_eq_false_iff_ne.2 hxy
        clear hx hy hxy Hn
        go_wp2
        go_quiet (fail)
        go_wp2
        go_ret
        exact ⟨by simp [hne], belowN HB.out nq⟩
    · have a1 : ¬ (k : Int) < xs.length := by omega
      have a3 : ¬ (k : Int) < ys.length := by omega
      obtain rfl : k = xs.length := by omega
      clear hf hg
      go_wp2
      go_ret
      have h := Hn.out
      rw [List.take_length, hl, List.take_length] at h
      exact ⟨by simp [h], hb⟩

theorem sameInts_sees {v1 v2 : Value} {xs ys : List Int} {w : World} (S1 : SeesI w v1 xs) (S2 : SeesI w v2 ys) (hm : xs.length ≤ maxLen) :
    Calls Tryd.prog 30 #[v1, v2] w fun e w' => e = .returned (.bool (decide (xs = ys))) ∧ Below w.heap.size w w' := by
  obtain ⟨ao, c1, rfl, h1⟩ := S1
  obtain ⟨bo, c2, rfl, h2⟩ := S2
  by_cases hl : xs.length = ys.length
  · rcases Nat.eq_zero_or_pos xs.length with h0 | h0
    · have e1 : xs = [] := List.eq_nil_of_length_eq_zero h0
      have e2 : ys = [] := List.eq_nil_of_length_eq_zero (by omega)
      subst e1 e2
      refine (sameInts_nil ao bo c1 c2 w).mono ?_
      rintro e w' ⟨rfl, rfl⟩
      exact ⟨rfl, Below.refl _ _⟩
    · obtain ⟨b, off, rfl, hc1⟩ := h1 h0
      obtain ⟨b', off', rfl, hc2⟩ := h2 (by omega)
      exact sameInts_cells b off b' off' c1 c2 xs ys hl hm w hc1 hc2
  · refine (sameInts_len ao bo _ _ c1 c2 w hl).mono ?_
    rintro e w' ⟨rfl, rfl⟩
    have : xs ≠ ys := fun e => hl (by rw [e])
    exact ⟨by simp [this], Below.refl _ _⟩

/-- What 'Ports' answers. -/
def portsS (d : Int) : List Int × Int := if 1 ≤ d ∧ d ≤ 3 then (dom8 d, 0) else ([], 2)

theorem hasP_no (d : Int) (h : ¬ (1 ≤ d ∧ d ≤ 3)) : hasP (portsP 24) d = false := by
  have hk : ∀ x ∈ portsP 24, 1 ≤ x.1 ∧ x.1 ≤ 3 := by decide +kernel
  unfold hasP
  rw [List.any_eq_false]
  intro x hx
  have := hk x hx
  simp; omega

theorem ports_sees (d : Int) (w : World) : Calls Tryd.prog 20 #[.int .i64 d] w fun e w' => ∃ v, e = .returned (.tuple #[v, .int .i64 (portsS d).2]) ∧ SeesI w' v (portsS d).1 ∧ Below w.heap.size w w' := by
  by_cases h : 1 ≤ d ∧ d ≤ 3
  · obtain ⟨k, rfl⟩ : ∃ k : Nat, d = k := ⟨d.toNat, by omega⟩
    refine (ports_own k w (by omega) (by omega)).mono ?_
    rintro e w' ⟨hb, hs, g, cap, rfl, hg, hc⟩
    unfold portsS
    rw [if_pos h]
    have hl : (dom8 k).length = 8 := by simp [dom8]
    exact ⟨_, rfl, ⟨_, cap, by rw [hl], fun _ => ⟨g, 0, rfl, by rw [hl]; exact hc⟩⟩, hb⟩
  · refine (ports_any d w).mono ?_
    rintro e w' ⟨hb, hs, hh⟩
    rw [hasP_no d h] at hh
    simp only [Bool.false_eq_true, if_false] at hh
    unfold portsS
    rw [if_neg h]
    exact ⟨_, hh, ⟨none, 0, rfl, fun h0 => by simp at h0⟩, hb⟩
end Go.Proofs.YtaipifjmkbcjjaaDoor
