/- Walks: Ports, Has. -/
import Derived.Test.YtaipifjmkbcjjaaDoorT
import Derived.Test.YtaipifjmkbcjjaaDoorS
namespace Go.Proofs.YtaipifjmkbcjjaaDoor
open Go.RowKit Go.WideMaps Go.Maps Go.Sort

/-- Of a row, what is plain. -/
def proj (rows : List Rw) : List (Int × List Value) := rows.map (fun r => (r.k, r.xs))
def atP (ps : List (Int × List Value)) (d : Int) : List Value := ((ps.find? (fun r => r.1 == d)).getD (d, [])).2
def hasP (ps : List (Int × List Value)) (d : Int) : Bool := ps.any (fun r => r.1 == d)
def putP (ps : List (Int × List Value)) (x : Int × List Value) : List (Int × List Value) :=
  if hasP ps x.1 then ps.map (fun r => if r.1 = x.1 then x else r) else ps ++ [x]
def addP (ps : List (Int × List Value)) (d : Int) (v : List Value) : List (Int × List Value) := putP ps (d, atP ps d ++ v)

theorem proj_at (rows : List Rw) (d : Int) : (rowAt rows d).xs = atP (proj rows) d := by
  induction rows with
  | nil => rfl
  | cons r rows ih =>
    unfold rowAt atP proj at *
    simp only [List.map_cons, List.find?_cons]
    cases h : (r.k == d) <;> simp_all
theorem proj_has (rows : List Rw) (d : Int) : hasRow rows d = hasP (proj rows) d := by
  unfold hasRow hasP proj; rw [List.any_map]; rfl
theorem proj_put (rows : List Rw) (x : Rw) : proj (putRow' rows x) = putP (proj rows) (x.k, x.xs) := by
  unfold putRow' putP
  rw [proj_has]
  split
  · unfold proj
    rw [List.map_map, List.map_map]
    apply List.map_congr_left
    intro r _
    simp only [Function.comp]
    split <;> rfl
  · unfold proj; simp

/-- The rows behind k rounds of the ports' loop. -/
def portsP : Nat → List (Int × List Value)
  | 0 => []
  | k + 1 => addP (portsP k) (1 + (k : Int) / 8) [.int .i64 k]

theorem Tr.info3 : (Tryd.prog.info? 3).map (fun i => (i.zero, i.size, i.bytes)) = some (some (.int .i64 0), 1, 8) := by kernel_rfl
theorem zero26 (w : World) : (zeroValue 26).run Tryd.prog w = .ok (.slice none 0 0) w := by kernel_rfl

theorem wf_rows (rows : List Rw) {w base E size m} (g : GM w base E size m rows) (d : Int) : (atP (proj rows) d).length = (rowAt rows d).n * size := by
  rw [← proj_at]; exact (g.ownAt d).1

theorem portsP_len : ∀ k : Nat, k < 24 → (atP (portsP k) (1 + (k : Int) / 8)).length ≤ 24 := by
  decide +kernel

theorem below_grownO {B : Nat} {w0 w w' : World} {row : Option Nat} (h : Below B w0 w) (hg : w.grownBy w' row) (hB : ∀ c, row = some c → B ≤ c) (hs : B ≤ w.heap.size) : Below B w0 w' :=
  h.grown hg hs hB

set_option maxRecDepth 100000 in
theorem ports_any (d : Int) (w : World) :
    Calls Tryd.prog 20 #[.int .i64 d] w fun e w' => Below w.heap.size w w' ∧ w.heap.size ≤ w'.heap.size ∧
      if hasP (portsP 24) d then ∃ v n, e = .returned (.tuple #[v, .int .i64 0]) ∧ w'.ownsRow (w.heap.size + 1) 3 1 v n (atP (portsP 24) d)
      else e = .returned (.tuple #[.slice none 0 0, .int .i64 2]) := by
  have hmm := @run_makeMap Tryd.prog
  obtain ⟨i0, hi, hz0, hz1, hz2⟩ := info_parts Tr.info3
  go_enter Tryd.func20, Tryd.ntmps20
  go_wp2
  go_loopw [11] (fun i wr => ∃ (k : Nat) (rows : List Rw), k ≤ 24 ∧ i = .int .i64 k ∧ GM wr (w.heap.size + 1) 3 1 w.heap.size rows ∧ proj rows = portsP k ∧ Below w.heap.size w wr ∧ w.heap.size + 1 ≤ wr.heap.size)
    (fun i _ => 24 - (intOf i).toNat)
  case atStart => exact ⟨0, [], Nat.zero_le _, rfl, GM.made _ _ _, rfl, (Below.refl _ _).alloc (Nat.le_refl _) _, by simp⟩
  case round =>
    obtain ⟨k, rows, hk, rfl, hg, hp, hnx, hws⟩ := hrel
    have hdo : (k : Int) < 24 → ∀ W, Calls Tryd.prog 19 #[.int .i64 k] W fun e w' => e = .returned (.tuple #[.int .i64 (1 + (k : Int) / 8), .int .i64 0]) ∧ W = w' := fun h W => domain_ok k W (by omega) (by omega)
    have hln : (k : Int) < 24 → (rowAt rows (1 + (k : Int) / 8)).n ≤ 24 := fun h => by
      have h1 := wf_rows rows hg (1 + (k : Int) / 8)
      have h2 := portsP_len k (by omega)
      rw [hp] at h1; omega
    have hrow := hg.ownAt (1 + (k : Int) / 8)
    go_wp2_with (first
      | (go_at_call 19; (refine (hdo (by assumption) _).mono ?_; rintro e w1 ⟨rfl, rfl⟩))
      | (at_lookup; refine wpList_lookup_gm rfl _ _ 92 3 26 false rfl (by kernel_rfl) (by kernel_rfl) (zero26 _) hg rfl _ rfl ?_; simp only [Bool.false_eq_true, if_false])
      | (at_lookup; (refine wpList_lookup_gm rfl _ _ 92 3 26 true rfl (by kernel_rfl) (by kernel_rfl) (zero26 _) hg rfl _ rfl ?_; simp only [if_true]))
      | (at_builtin; (refine wpList_append_own_at _ rfl _ _ 26 rfl (w.heap.size + 1) 3 i0 (.int .i64 0) 1 8 (by kernel_rfl) hi hz0 hz1 hz2 rfl (by decide) _ _ _ rfl (hrow.alloc _) ⟨wr.heap.size, 0, none⟩ 1 1 [.int .i64 k] rfl rfl (cell_one_new _ _ _) (ints_oneCell .i64 [(k : Int)]) (by have := hln (by assumption); unfold maxLen; omega) (by have := hln (by assumption); omega) (by simp; omega) ?_; intro v' w1 hown' hgrow hnil hloc))
      | (at_mapUpdate; (refine wpList_update_gm rfl _ _ _ 92 3 26 rfl (by kernel_rfl) (by kernel_rfl) hg rfl ⟨1 + (k : Int) / 8, v', _, _⟩ rfl rfl hws ((World.grownBy_alloc _ _ _).trans hgrow) hown' (hloc.imp id (fun h => ⟨_, h, by simp⟩)) ?_; intro w2 hg2 hgrow2))
      | fail)
    · have hall := (World.grownBy_alloc wr _ _).trans hgrow
      have hb1 := below_grownO hnx hall (fun c h => by have := (hrow.lt c h).1; omega) (by omega)
      go_roundw
      case rel =>
        refine ⟨k + 1, _, by omega, by go_num, hg2, ?_, below_grown hb1 hgrow2 (Nat.le_refl _) (Nat.le_trans (by omega) hall.size), Nat.le_trans hws (Nat.le_trans hall.size hgrow2.size)⟩
        rw [proj_put, proj_at, hp]; rfl
      case measure => simp [intOf]; omega
    all_goals
      go_ret2
      have hk' : k = 24 := by omega
      subst hk'
      have hH : hasRow rows d = hasP (portsP 24) d := by rw [proj_has, hp]
      refine ⟨hnx, by omega, ?_⟩
      first
      | (exfalso; simp_all; done)
      | exact rfl
      | exact ⟨_, rfl, _, by rw [← hp, ← proj_at]; exact hg.ownAt d⟩
end Go.Proofs.YtaipifjmkbcjjaaDoor
