/- Walks: frames written. -/
import Derived.Test.YtaipifjmkbcjjaaDoorB
import Derived.Deep.QuietTactic
import Derived.BigQuiet
namespace Go.Proofs.YtaipifjmkbcjjaaDoor
open Go.RowKit

theorem ret_str {a b : ByteArray} (h : a = b) : Ending.returned (.string a) = .returned (.string b) := by rw [h]

theorem sum_eq (b : UInt8) : hexText.extract (bn b / 16).toNat (bn b / 16 + 1).toNat ++ hexText.extract (bn b % 16).toNat (bn b % 16 + 1).toNat = bs (hexS b) := by
  have h := b.toNat_lt
  have e1 : (bn b / 16).toNat = b.toNat / 16 := by unfold bn; omega
  have e2 : (bn b / 16 + 1).toNat = b.toNat / 16 + 1 := by unfold bn; omega
  have e3 : (bn b % 16).toNat = b.toNat % 16 := by unfold bn; omega
  have e4 : (bn b % 16 + 1).toNat = b.toNat % 16 + 1 := by unfold bn; omega
  rw [e1, e2, e3, e4, hex_slice _ (by omega), hex_slice _ (by omega), bs_append]
  rfl

set_option maxHeartbeats 400000 in
theorem sum_any (s : ByteArray) (w : World) (hs : s.size ≤ maxLen) (hg : Glob w) :
    Calls Tryd.prog 72 #[.string s] w fun e w' => e = .returned (.string (bs (hexS (crc s.data.toList)))) ∧ Below w.heap.size w w' := by
  go_enter Tryd.func72, Tryd.ntmps72
  go_wp2_with (go_at_call 86; refine (crcSum_any _ _ hs hg).mono ?_; rintro e w1 ⟨rfl, hb⟩)
  have h0 := bn_nonneg (crc s.data.toList)
  have h1 := bn_lt (crc s.data.toList)
  have he := Lib.hid (sum_eq (crc s.data.toList))
  generalize bn (crc s.data.toList) = c at *
  go_region
  go_wp2
  go_ret
  exact ⟨ret_str he.out, hb.drew⟩

theorem small_eq1 (n : Int) (h0 : 0 ≤ n) (h1 : n < 10) : ({ data := #[48, 49, 50, 51, 52, 53, 54, 55, 56, 57, 97, 98, 99, 100, 101, 102, 103, 104, 105, 106, 107, 108, 109, 110, 111, 112, 113, 114, 115, 116, 117, 118, 119, 120, 121, 122] } : ByteArray).extract n.toNat (n + 1).toNat = bs (digs n.toNat) := by
  have e : (n + 1).toNat = n.toNat + 1 := by omega
  rw [e]
  have k : ∀ n : Fin 10, ({ data := #[48, 49, 50, 51, 52, 53, 54, 55, 56, 57, 97, 98, 99, 100, 101, 102, 103, 104, 105, 106, 107, 108, 109, 110, 111, 112, 113, 114, 115, 116, 117, 118, 119, 120, 121, 122] } : ByteArray).extract n.val (n.val + 1) = bs (digs n.val) := by decide
  exact k ⟨n.toNat, by omega⟩

def smallText : ByteArray := bs ((List.range 100).flatMap fun n => [UInt8.ofNat (48 + n / 10), UInt8.ofNat (48 + n % 10)])
theorem small_eq2 (n : Int) (h0 : 10 ≤ n) (h1 : n < 100) : smallText.extract (n * 2).toNat (n * 2 + 2).toNat = bs (digs n.toNat) := by
  have e : (n * 2 + 2).toNat = n.toNat * 2 + 2 := by omega
  have e' : (n * 2).toNat = n.toNat * 2 := by omega
  rw [e, e']
  have k : ∀ n : Fin 90, smallText.extract ((n.val + 10) * 2) ((n.val + 10) * 2 + 2) = bs (digs (n.val + 10)) := by decide +kernel
  have := k ⟨n.toNat - 10, by omega⟩
  have e2 : n.toNat - 10 + 10 = n.toNat := by omega
  simpa only [e2] using this

set_option maxRecDepth 100000 in
theorem small_any (n : Int) (w : World) (h0 : 0 ≤ n) (h1 : n < 100) :
    Calls Tryd.prog 102 #[.int .i64 n] w fun e w' => e = .returned (.string (bs (digs n.toNat))) ∧ w = w' := by
  by_cases h : n < 10
  · have he := Lib.hid (small_eq1 n h0 h)
    go_enter Tryd.func102, Tryd.ntmps102
    go_wp2
    go_ret
    exact ⟨ret_str he.out, rfl⟩
  · have hl : 10 ≤ n := by omega
    have he := Lib.hid (small_eq2 n hl h1)
    clear h
    go_enter Tryd.func102, Tryd.ntmps102
    go_wp2
    go_ret
    exact ⟨ret_str he.out, rfl⟩

theorem formatInt_any (n : Int) (w : World) (h0 : 0 ≤ n) (h1 : n < 100) :
    Calls Tryd.prog 95 #[.int .i64 n, .int .i64 10] w fun e w' => e = .returned (.string (bs (digs n.toNat))) ∧ w = w' := by
  go_enter Tryd.func95, Tryd.ntmps95
  go_wp2_with (go_at_call 102; refine (small_any _ _ h0 h1).mono ?_; rintro e w1 ⟨rfl, rfl⟩)
  go_ret
  exact ⟨rfl, rfl⟩

theorem itoa1_any (n : Int) (w : World) (h0 : 0 ≤ n) (h1 : n < 100) :
    Calls Tryd.prog 90 #[.int .i64 n] w fun e w' => e = .returned (.string (bs (digs n.toNat))) ∧ w = w' := by
  go_enter Tryd.func90, Tryd.ntmps90
  go_wp2_with (go_at_call 95; refine (formatInt_any _ _ h0 h1).mono ?_; rintro e w1 ⟨rfl, rfl⟩)
  go_ret
  exact ⟨rfl, rfl⟩

theorem itoa_any (n : Int) (w : World) (h0 : 0 ≤ n) (h1 : n < 100) :
    Calls Tryd.prog 78 #[.int .i64 n] w fun e w' => e = .returned (.string (bs (digs n.toNat))) ∧ w = w' := by
  go_enter Tryd.func78, Tryd.ntmps78
  go_wp2_with (go_at_call 90; refine (itoa1_any _ _ h0 h1).mono ?_; rintro e w1 ⟨rfl, rfl⟩)
  go_ret
  exact ⟨rfl, rfl⟩

end Go.Proofs.YtaipifjmkbcjjaaDoor
