/- Walks: the iterator over a stream. -/
import Derived.Test.YtaipifjmkbcjjaaDoorZOne
import Derived.Test.YtaipifjmkbcjjaaDoorZRs
import Derived.RangeFuncNested
import Derived.RangeFuncBound
import Derived.Shelf.Abstract
import Derived.Shelf.RegionOpen
import Derived.OwnWalkIn
import Derived.TacticsInMore
import Derived.LoopNIn
import Derived.LoopIn
namespace Go.Proofs.YtaipifjmkbcjjaaDoor
open Go.RowKit Go.Shelf Go.Sort

/-- What is found in a stream, one after the other: a frame and its length, or no frame and 1. -/
def itemsF : Nat → List UInt8 → List (Fr × Nat)
  | 0, _ => []
  | _ + 1, [] => []
  | m + 1, b :: L => oneS (b :: L) :: itemsF m ((b :: L).drop (oneS (b :: L)).2)
def items (L : List UInt8) : List (Fr × Nat) := itemsF L.length L

theorem oneS_pos (L : List UInt8) (h : 0 < L.length) : 1 ≤ (oneS L).2 ∧ (oneS L).2 ≤ L.length := by
  have hb := indexAny_lt (nearS L) [60, 62]
  have hn : (nearS L).length + 1 ≤ L.length := by unfold nearS; rw [List.length_take, List.length_drop]; omega
  unfold oneS
  split
  · exact ⟨by simp, by show 1 ≤ L.length; omega⟩
  · split
    · exact ⟨by simp, by show 1 ≤ L.length; omega⟩
    · split
      · exact ⟨by simp, by show 1 ≤ L.length; omega⟩
      · split
        · exact ⟨by simp, by show 1 ≤ L.length; omega⟩
        · simp only []
          exact ⟨by omega, by omega⟩

theorem itemsF_more : ∀ (m m' : Nat) (L : List UInt8), L.length ≤ m → L.length ≤ m' → itemsF m L = itemsF m' L
  | 0, 0, _, _, _ => rfl
  | 0, _ + 1, [], _, _ => rfl
  | _ + 1, 0, [], _, _ => rfl
  | _ + 1, _ + 1, [], _, _ => rfl
  | 0, _, b :: L, h, _ => by simp at h
  | _ + 1, 0, b :: L, _, h => by simp at h
  | m + 1, m' + 1, b :: L, h, h' => by
    have hp := oneS_pos (b :: L) (by simp)
    unfold itemsF
    rw [itemsF_more m m' _ (by rw [List.length_drop]; simp at h ⊢; omega) (by rw [List.length_drop]; simp at h' ⊢; omega)]
theorem items_nil : items [] = [] := rfl
theorem items_cons (L : List UInt8) (h : 0 < L.length) : items L = oneS L :: items (L.drop (oneS L).2) := by
  have hp := oneS_pos L h
  cases L with
  | nil => simp at h
  | cons b L =>
    show itemsF (L.length + 1) (b :: L) = _
    unfold itemsF items
    rw [itemsF_more L.length _ ((b :: L).drop (oneS (b :: L)).2) (by rw [List.length_drop]; simp at hp ⊢; omega) (Nat.le_refl _)]

/-- How the iterator hands on what it has found. -/
abbrev encI (x : Fr × Nat) : Array Value := #[x.1.v, .bool (decide ((1 : Int) < (x.2 : Int)))]

theorem found_any (s : ByteArray) (w : World) :
    Calls Tryd.prog 76 #[.string s] w fun e w' => e = .returned (.func (.func 88) #[] #[.pointer (some ⟨w.heap.size, 0, none⟩)]) ∧ w' = w.alloc (.cells #[.string s] 9) := by
  go_enter Tryd.func76, Tryd.ntmps76
  go_wp2
  go_ret
  exact ⟨rfl, rfl⟩

/-- How much of the stream is left. -/
def leftOf (Bs : Nat) (w : World) : Nat := match w.cell? ⟨Bs, 0, none⟩ with | some (.string s) => s.size | _ => 0
theorem leftOf_eq {Bs : Nat} {w : World} {s : ByteArray} {t : TypeId} (h : Boxed w Bs t (.string s)) : leftOf Bs w = s.size := by simp [leftOf, h.cell]

set_option maxHeartbeats 1000000 in
theorem found_gives (n : Nat) (Bs : Nat) (L : List UInt8) (hm : L.length ≤ maxLen) (w : World) (hB : Boxed w Bs 9 (.string (bs L))) :
    GivesAll Fence.wide n Tryd.prog 88 #[.pointer (some ⟨Bs, 0, none⟩)] encI Bs (L.length + 1) Glob (fun xs => xs = items L) w := by
  intro l J hJG hJ hY W h0 hBW
  refine callsIn_of_wp Tryd.func88 rfl trivial ?_ rfl
  simp only [Tryd.ntmps88, List.size_toArray, List.length_cons, List.length_nil, Nat.reduceAdd, Nat.reduceSub, Array.replicate_succ, Array.replicate_zero, List.push_toArray, List.append_toArray, List.nil_append, List.cons_append]
  gi_wp2
  gi_loopw [4] (fun _ wr => ∃ (pre : List (Fr × Nat)) (rest : List UInt8), items L = pre ++ items rest ∧ pre.length + rest.length ≤ L.length ∧ Boxed wr Bs 9 (.string (bs rest)) ∧ J pre wr)
    (fun _ wr => leftOf Bs wr)
  case atStart =>
    exact ⟨[], L, rfl, by simp, hBW.trans hB, h0⟩
  case round =>
    obtain ⟨pre, rest, hx, hlen, hbx, hJs⟩ := hrel
    have hc := hbx.cell
    have hfz := hbx.frozen
    rcases Nat.eq_zero_or_pos rest.length with h | hpos
    · obtain rfl : rest = [] := List.length_eq_zero_iff.1 h
      have he : ((bs []).toList.isEmpty) = true := by rw [toList_data, bs_list]; rfl
      gi_wp2
      go_end0
      exact ⟨⟨_, rfl⟩, pre, by rw [hx, items_nil]; simp, hJs⟩
    · have he : (bs rest).toList.isEmpty = false := by
        rw [toList_data, bs_list]
        cases rest with
        | nil => simp at hpos
        | cons b r => rfl
      obtain ⟨f, m, hone⟩ : ∃ f m, oneS rest = (f, m) := ⟨_, _, rfl⟩
      have hmp := oneS_pos rest hpos
      have hit := items_cons rest hpos
      rw [hone] at hmp hit
      obtain ⟨hm1, hm2⟩ := hmp
      simp only [] at hm1 hm2
      gi_wp2_with fail
      refine ⟨trivial, fun h => by simp [Fence.wide] at h, (callsIn_wide.2 (one_any (bs rest) wr (by rw [bs_size]; exact hpos) (by rw [bs_size]; omega) (hJG _ _ hJs) f m (by rw [bs_list]; exact hone))).mono ?_⟩
      rintro e w1 ⟨rfl, hb⟩
      have hJ2 : J pre (w1.alloc (.cells f.c 68)) := hJ _ _ _ (hJ _ _ _ hJs (grown_below hb)) (World.grownBy_alloc _ _ _)
      have hbx2 : Boxed (w1.alloc (.cells f.c 68)) Bs 9 (.string (bs rest)) := Boxed.alloc ((hb.block _ hbx.lt).trans hbx) _
      obtain ⟨fn, tmps, assign, body, hy, hR⟩ := hY pre (f, m) _ hJ2 (by omega)
      have HB2 := Lib.hid hbx2
      have HL0' : Hid (leftOf Bs wr = rest.length) := by show _ = _; rw [leftOf_eq hbx, bs_size]
      clear hb hJs hbx hc hfz hJ2 hbx2
      dsimp only [encI, Fr.v, Fr.c] at hy
      gi_wp2
      refine ⟨fun h => by simp [Fence.wide] at h, hR.mono ?_⟩
      rintro e W3 ⟨rfl, hJ3, hk3⟩
      have hbx3 : Boxed W3 Bs 9 (.string (bs rest)) := hk3.trans HB2.out
      have hc := hbx3.cell
      have hfz := hbx3.frozen
      have hsz : (bs rest).size = rest.length := bs_size rest
      have b1 : (0 : Int) ≤ (m : Int) := by omega
      have b2 : (m : Int) ≤ (rest.length : Int) := by omega
      have hex : (bs rest).extract m rest.length = bs (rest.drop m) := by
        apply ByteArray.ext; apply Array.ext'; rw [extract_list, bs_list, bs_list, List.take_of_length_le]; simp
      have HB3 := Lib.hid (Boxed.set (.string (bs (rest.drop m))) hbx3)
      have HJ3 := Lib.hid (hJ _ _ _ hJ3 (grownBy_setCell' W3 Bs (.string (bs (rest.drop m)))))
      have HL := Lib.hid (leftOf_eq HB3.out)
      clear hJ3 hbx3 hk3 HB2
      gi_wp2
      go_roundw
      case rel => exact ⟨pre ++ [(f, m)], rest.drop m, by rw [hx, hit]; simp, by rw [List.length_append, List.length_drop]; simp; omega, HB3.out, HJ3.out⟩
      case measure => rw [HL.out, HL0'.out, bs_size, List.length_drop]; omega
end Go.Proofs.YtaipifjmkbcjjaaDoor
