/- Walks: the readers of forms. -/
import Derived.Test.YtaipifjmkbcjjaaDoorF
namespace Go.Proofs.YtaipifjmkbcjjaaDoor
open Go.RowKit

/-- Where a number first stands among bytes, counted from i on; -1 if nowhere. -/
def ixI : List UInt8 → Int → Int → Int
  | [], _, _ => -1
  | c :: l, n, i => if bn c = n then i else ixI l n (i + 1)

theorem ixI_drop (s : ByteArray) (n : Int) (k : Nat) (h : k < s.size) :
    ixI (s.data.toList.drop k) n k = if bn s[k] = n then (k : Int) else ixI (s.data.toList.drop (k + 1)) n (k + 1) := by
  have h' : k < s.data.toList.length := by simpa using h
  rw [List.drop_eq_getElem_cons h']; rfl

set_option maxHeartbeats 400000 in
theorem runeAt_any (s : ByteArray) (n : Int) (w : World) (hs : s.size ≤ maxLen) (ha : ∀ k (h : k < s.size), (s[k]'h).toNat < 128) :
    Calls Tryd.prog 84 #[.string s, .int .i32 n] w fun e w' => e = .returned (.int .i64 (ixI s.data.toList n 0)) ∧ Below w.heap.size w w' := by
  unfold maxLen at hs
  go_enter Tryd.func84, Tryd.ntmps84
  go_wp2
  go_loopw [5, 6] (fun a b wr => ∃ k : Nat, k ≤ s.size ∧ wr = w.iter s k ∧ ixI (s.data.toList.drop k) n k = ixI s.data.toList n 0) (fun _ _ wr => s.size - wr.iterPos w.heap.size)
  case atStart => exact ⟨0, by omega, rfl, by simp⟩
  case round =>
    obtain ⟨k, hk, rfl, hix⟩ := hrel
    have Hix := Lib.hid hix
    clear hix
    by_cases hlt : k < s.size
    · have hn := run_next_ascii (P := Tryd.prog) w s k
      have hd := Lib.hid (ixI_drop s n k hlt)
      go_wp2
      · rename_i hq
        have hq : (bn s[k] == n) = true := hq
        go_ret
        exact ⟨ret_int (by rw [← Hix.out, hd.out, if_pos (by simpa using hq)]), (Below.refl _ _).alloc (Nat.le_refl _) _⟩
      · rename_i hq
        have hq : (bn s[k] == n) = false := hq
        refine ⟨⟨k + 1, by omega, rfl, by rw [← Hix.out, hd.out, if_neg (by simpa using hq)]; rfl⟩, ?_⟩
        rw [World.iterPos_iter, World.iterPos_iter]; omega
    · have hn := run_next_end (P := Tryd.prog) w s k
      go_wp2
      go_ret
      exact ⟨ret_int (by rw [← Hix.out, List.drop_of_length_le (by simp; omega)]; rfl), (Below.refl _ _).alloc (Nat.le_refl _) _⟩

end Go.Proofs.YtaipifjmkbcjjaaDoor
