/- Walks: the checksums of the program and of the reference. -/
import Derived.Test.YtaipifjmkbcjjaaDoorProg
import Derived.Test.YtaipifjmkbcjjaaDoorZA
import Derived.WalkKit
import Derived.WalkSpells
import Derived.WalkLawsBesides
import Derived.Lib.ConvBytes
import Derived.Lib.Hide
namespace Go.Proofs.YtaipifjmkbcjjaaDoor
open Go.RowKit

/-- The checksum's table lies as the text lays it. -/
def Glob (w : World) : Prop := 0 < w.heap.size ∧ ∀ k : Nat, k < 16 → w.cell? ⟨0, k, none⟩ = some (.int .u8 (halvesL.getD k 0))

theorem Glob.below {w w' : World} {B : Nat} (g : Glob w) (h : Below B w w') (hB : 0 < B) : Glob w' :=
  ⟨Nat.lt_of_lt_of_le g.1 h.size, fun k hk => (h.cell (p := ⟨0, k, none⟩) hB).trans (g.2 k hk)⟩
theorem Glob.next {w w' : World} (g : Glob w) (h : Below w.heap.size w w') : Glob w' := g.below h g.1
theorem Glob.drew {w : World} (g : Glob w) : Glob w.drew := g

theorem below_bytes (w : World) (e : TypeId) (s : ByteArray) : Below w.heap.size w (Lib.bytesWorld w e s) :=
  ⟨rfl, rfl, rfl, by rw [Lib.bytesWorld_size]; omega, fun k hk => Lib.bytesWorld_at_old w e s k hk⟩

theorem ret_int {k : IntKind} {a b : Int} (h : a = b) : Ending.returned (.int k a) = .returned (.int k b) := by rw [h]
theorem int_eq {k : IntKind} {a b : Int} (h : a = b) : Value.int k a = Value.int k b := by rw [h]

def twN (x : Int) : Nat → Int | 0 => x | k + 1 => tw (twN x k)

theorem tw_range (b : UInt8) (k : Nat) : ∃ c : UInt8, twN (bn b) k = bn c := by
  induction k with
  | zero => exact ⟨b, rfl⟩
  | succ k ih => obtain ⟨c, hc⟩ := ih; exact ⟨twB c, by rw [twN, hc, tw_B]⟩

set_option maxHeartbeats 400000 in
theorem turn_any (x : Int) (b : UInt8) (w : World) (hx : x = bn b) (hg : Glob w) :
    Calls Tryd.prog 93 #[.int .u8 x] w fun e w' => e = .returned (.int .u8 (bn (turnB b))) ∧ w = w' := by
  have hf : twN (bn b) 2 = bn (turnB b) := by simp only [twN]; rw [tw_B, tw_B]; rfl
  obtain ⟨_, hcell⟩ := hg
  subst hx
  go_enter Tryd.func93, Tryd.ntmps93
  have Hf := Lib.hid hf
  have Hc := Lib.hid hcell
  clear hf hcell
  go_wp2
  go_loop [0, 3] (fun a i => ∃ k : Nat, k ≤ 2 ∧ i = .int .i64 k ∧ a = .int .u8 (twN (bn b) k)) (fun _ i => 2 - (intOf i).toNat)
  case atStart => exact ⟨0, by omega, rfl, rfl⟩
  case round =>
    obtain ⟨k, hk, rfl, rfl⟩ := hrel
    obtain ⟨c, hc⟩ := tw_range b k
    have h0 := bn_nonneg c
    have h1 := bn_lt c
    generalize hy : bn c = y at *
    have HC := Lib.hid hc
    have HY := Lib.hid hy
    have hcell := Hc.out (y / 16).toNat (by omega)
    rw [hc]
    have hs : twN (bn b) (k + 1) = tw y := by rw [twN, hc]
    have HS := Lib.hid hs
    clear hc hy hs
    go_wp2
    · go_round
      case rel => exact ⟨k + 1, by omega, by go_num, by rw [HS.out]; rfl⟩
      case measure => simp [intOf]; omega
    · have : k = 2 := by omega
      subst this
      go_ret
      exact ⟨ret_int (by rw [← HC.out, Hf.out]), rfl⟩


theorem take_snoc (s : ByteArray) (k : Nat) (h : k < s.size) : s.data.toList.take (k + 1) = s.data.toList.take k ++ [s.data.toList.getD k 0] := by
  have h' : k < s.data.toList.length := by simpa using h
  rw [List.take_succ_eq_append_getElem h', List.getD_eq_getElem?_getD, List.getElem?_eq_getElem h']; rfl

theorem byte_at (s : ByteArray) (k : Nat) (h : k < s.size) : s.data.toList.getD k 0 = s[k] := by
  have h' : k < s.data.toList.length := by simpa using h
  rw [List.getD_eq_getElem?_getD, List.getElem?_eq_getElem h']; rfl

theorem crc_snoc (s : ByteArray) (k : Nat) (h : k < s.size) : crc (s.data.toList.take (k + 1)) = turnB (crc (s.data.toList.take k) ^^^ s.data.toList.getD k 0) := by
  rw [take_snoc s k h]; exact crcFrom_snoc _ _ _

set_option maxHeartbeats 400000 in
theorem crcSum_any (s : ByteArray) (w : World) (hs : s.size ≤ maxLen) (hg : Glob w) :
    Calls Tryd.prog 86 #[.string s] w fun e w' => e = .returned (.int .u8 (bn (crc s.data.toList))) ∧ Below w.heap.size w w' := by
  unfold maxLen at hs
  have hb := below_bytes w 5 s
  have hg' := hg.next hb
  have hconv := Lib.run_convert_string_bytes (P := Tryd.prog) w 9 46 5 s Tryd.underlying9 Tryd.underlying46 Tryd.underlying5
  have hcell := Lib.bytesWorld_cell w 5 s
  go_enter Tryd.func86, Tryd.ntmps86
  have Hb := Lib.hid hb
  have Hc := Lib.hid hcell
  clear hb hcell
  go_wp2
  clear hconv
  generalize Lib.bytesWorld w 5 s = W1 at *
  generalize grownCap w s.size 0 5 = cp
  go_loop [3, 9] (fun c i => ∃ k : Nat, k ≤ s.size ∧ i = .int .i64 k ∧ c = .int .u8 (bn (crc (s.data.toList.take k)))) (fun _ i => s.size - (intOf i).toNat)
  case atStart => exact ⟨0, by omega, rfl, rfl⟩
  case round =>
    obtain ⟨k, hk, rfl, rfl⟩ := hrel
    have h0 := bn_nonneg (crc (s.data.toList.take k))
    have h1 := bn_lt (crc (s.data.toList.take k))
    by_cases hlt : k < s.size
    · have hcell := Hc.out k hlt
      have hxo := xor_B (crc (s.data.toList.take k)) (s.data.toList.getD k 0)
      have Hsn := Lib.hid (crc_snoc s k hlt)
      rw [← bn_eq] at hcell
      generalize s.data.toList.getD k 0 = b at *
      generalize crc (s.data.toList.take k) = c at *
      go_wp2_with (go_at_call 93; refine (turn_any _ _ _ rfl hg').mono ?_; rintro e w' ⟨rfl, rfl⟩)
      go_round
      case rel => exact ⟨k + 1, by omega, by go_num, by rw [Hsn.out]⟩
      case measure => simp [intOf]; omega
    · go_wp2
      go_ret
      exact ⟨ret_int (by rw [List.take_of_length_le (by simp; omega)]), Hb.out⟩

def dblN (x : Int) : Nat → Int | 0 => x | k + 1 => dbl (dblN x k)

theorem dbl_range (b : UInt8) (k : Nat) : ∃ c : UInt8, dblN (bn b) k = bn c := by
  induction k with
  | zero => exact ⟨b, rfl⟩
  | succ k ih =>
    obtain ⟨c, hc⟩ := ih
    have h : ∀ n : Fin 256, ∃ d : Fin 256, dbl (bn (UInt8.ofNat n.val)) = bn (UInt8.ofNat d.val) := by decide +kernel
    obtain ⟨d, hd⟩ := h ⟨c.toNat, c.toNat_lt⟩
    exact ⟨UInt8.ofNat d.val, by rw [dblN, hc, ← hd]; simp⟩

set_option maxHeartbeats 400000 in
theorem step_any (x y : Int) (c b : UInt8) (w : World) (hx : x = bn c) (hy : y = bn b) :
    Calls Tryd.prog 87 #[.int .u8 x, .int .u8 y] w fun e w' => e = .returned (.int .u8 (bn (turnB (c ^^^ b)))) ∧ w = w' := by
  subst hx hy
  have hxo := xor_B c b
  have Hf : Hid (dblN (bn (c ^^^ b)) 8 = bn (turnB (c ^^^ b))) := dbl8_B _
  go_enter Tryd.func87, Tryd.ntmps87
  go_wp2
  clear hxo
  generalize hz : c ^^^ b = z at *
  have HZ := Lib.hid hz
  clear hz
  go_loop [5, 6] (fun a i => ∃ k : Nat, k ≤ 8 ∧ i = .int .i64 k ∧ a = .int .u8 (dblN (bn z) k)) (fun _ i => 8 - (intOf i).toNat)
  case atStart => exact ⟨0, by omega, rfl, rfl⟩
  case round =>
    obtain ⟨k, hk, rfl, rfl⟩ := hrel
    obtain ⟨c, hc⟩ := dbl_range z k
    have h0 := bn_nonneg c
    have h1 := bn_lt c
    generalize hy : bn c = y at *
    have HC := Lib.hid hc
    rw [hc]
    have HS : Hid (dblN (bn z) (k + 1) = dbl y) := by show _ = _; rw [dblN, hc]
    clear hc hy
    by_cases h128 : 128 ≤ y
    · go_wp2
      · go_round
        case rel => exact ⟨k + 1, by omega, by go_num, by rw [HS.out, dbl, if_pos h128]⟩
        case measure => simp [intOf]; omega
      · have : k = 8 := by omega
        subst this
        go_ret
        exact ⟨ret_int (by rw [← HC.out, Hf.out, HZ.out]), rfl⟩
    · go_wp2
      · go_round
        case rel => exact ⟨k + 1, by omega, by go_num, int_eq (by rw [HS.out, dbl, if_neg (by omega)]; omega)⟩
        case measure => simp [intOf]; omega
      · have : k = 8 := by omega
        subst this
        go_ret
        exact ⟨ret_int (by rw [← HC.out, Hf.out, HZ.out]), rfl⟩

set_option maxHeartbeats 400000 in
theorem refSum_any (s : ByteArray) (w : World) (hs : s.size ≤ maxLen) :
    Calls Tryd.prog 75 #[.string s] w fun e w' => e = .returned (.int .u8 (bn (crc s.data.toList))) ∧ w = w' := by
  unfold maxLen at hs
  go_enter Tryd.func75, Tryd.ntmps75
  go_wp2
  go_loop [3, 4] (fun c i => ∃ k : Nat, k ≤ s.size ∧ i = .int .i64 k ∧ c = .int .u8 (bn (crc (s.data.toList.take k)))) (fun _ i => s.size - (intOf i).toNat)
  case atStart => exact ⟨0, by omega, rfl, rfl⟩
  case round =>
    obtain ⟨k, hk, rfl, rfl⟩ := hrel
    by_cases hlt : k < s.size
    · have Hsn := Lib.hid (crc_snoc s k hlt)
      go_wp2_with fail
      have hb := byte_at s k hlt
      rw [hb] at Hsn
      refine (step_any _ _ _ _ _ rfl rfl).mono ?_
      rintro e w' ⟨rfl, rfl⟩
      go_wp2
      go_round
      case rel => exact ⟨k + 1, by omega, by go_num, by rw [Hsn.out]⟩
      case measure => simp [intOf]; omega
    · go_wp2
      go_ret
      exact ⟨ret_int (by rw [List.take_of_length_le (by simp; omega)]), rfl⟩

end Go.Proofs.YtaipifjmkbcjjaaDoor
