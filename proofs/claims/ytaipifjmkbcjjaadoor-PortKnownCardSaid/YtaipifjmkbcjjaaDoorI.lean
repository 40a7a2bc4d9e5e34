/- Walks: the readers of forms, on. -/
import Derived.Test.YtaipifjmkbcjjaaDoorH
import Derived.Test.YtaipifjmkbcjjaaDoorShelf
namespace Go.Proofs.YtaipifjmkbcjjaaDoor
open Go.RowKit Go.Sort

/-- A decimal digit. -/
def isDig (b : UInt8) : Bool := decide (0 ≤ Lib.indexByte [48, 49, 50, 51, 52, 53, 54, 55, 56, 57] b)

theorem digs10 : ({ data := #[48, 49, 50, 51, 52, 53, 54, 55, 56, 57, 97, 98, 99, 100, 101, 102] } : ByteArray).extract 0 10 = bs [48, 49, 50, 51, 52, 53, 54, 55, 56, 57] := by decide

set_option maxHeartbeats 400000 in
theorem more_no (b : Nat) (s : ByteArray) (p : Nat) (ok : Bool) (w : World) (_hs : s.size ≤ maxLen) (hR : Rd 104 b s p ok w) (h : ok = false ∨ s.size ≤ p) :
    Calls Tryd.prog 85 #[.pointer (some ⟨b, 0, none⟩)] w fun e w' => e = .returned (.bool false) ∧ ∃ n, w' = w.drewN n := by
  unfold maxLen at _hs
  have c0 := hR.c0
  have c1 := hR.c1
  have c2 := hR.c2
  cases ok with
  | false =>
    go_enter Tryd.func85, Tryd.ntmps85
    go_wp2
    go_quiet (fail)
    go_wp2
    go_ret
    exact ⟨rfl, _, rfl⟩
  | true =>
    have h : s.size ≤ p := by simpa using h
    have h' : decide (p < s.size) = false := by simpa using h
    go_enter Tryd.func85, Tryd.ntmps85
    go_wp2
    go_quiet (fail)
    go_wp2
    go_ret
    exact ⟨rfl, _, rfl⟩

set_option maxHeartbeats 400000 in
theorem more_at (b : Nat) (s : ByteArray) (p : Nat) (c : UInt8) (w : World) (_hs : s.size ≤ maxLen) (hR : Rd 104 b s p true w) (hp : p < s.size) (hc : s[p] = c) :
    Calls Tryd.prog 85 #[.pointer (some ⟨b, 0, none⟩)] w fun e w' => e = .returned (.bool (isDig c)) ∧ ∃ n, w' = w.drewN n := by
  have c0 := hR.c0
  have c1 := hR.c1
  have c2 := hR.c2
  unfold maxLen at _hs
  have hd : decide (p < s.size) = true := by simpa using hp
  have he := digs10
  have hi : ∀ n, Calls Tryd.prog 92 #[.string (bs [48, 49, 50, 51, 52, 53, 54, 55, 56, 57]), .int .u8 c.toNat] (w.drewN n) fun e w' => e = .returned (.int .i64 (Lib.indexByte [48, 49, 50, 51, 52, 53, 54, 55, 56, 57] c)) ∧ w' = w.drewN n := fun n => by
    have h := Tryd.strings_IndexByte (bs [48, 49, 50, 51, 52, 53, 54, 55, 56, 57]) c.toNat (w.drewN n)
    rw [bs_list] at h
    simpa using h
  go_enter Tryd.func85, Tryd.ntmps85
  go_wp2
  go_quiet ((go_at_call 92; exact Calls.quiet_of_same (hi _)))
  go_wp2
  go_ret
  exact ⟨rfl, _, rfl⟩

/-- Whether a digit comes next. -/
def moreS (s : List UInt8) (p : Nat) (ok : Bool) : Bool := ok && decide (p < s.length) && isDig (s.getD p 0)

theorem more_any (b : Nat) (s : ByteArray) (p : Nat) (ok : Bool) (w : World) (hs : s.size ≤ maxLen) (hR : Rd 104 b s p ok w) :
    Calls Tryd.prog 85 #[.pointer (some ⟨b, 0, none⟩)] w fun e w' => e = .returned (.bool (moreS s.data.toList p ok)) ∧ ∃ n, w' = w.drewN n := by
  have hl : s.data.toList.length = s.size := by simp
  by_cases h : ok = false ∨ s.size ≤ p
  · have e : moreS s.data.toList p ok = false := by
      unfold moreS; rw [hl]
      rcases h with h | h
      · rw [h]; rfl
      · rw [decide_eq_false (by omega)]; simp
    rw [e]; exact more_no b s p ok w hs hR h
  · simp only [not_or, Bool.not_eq_false, Nat.not_le] at h
    obtain ⟨rfl, hp⟩ := h
    have e : moreS s.data.toList p true = isDig s[p] := by
      unfold moreS; rw [hl, decide_eq_true hp, byte_at s p hp]; rfl
    rw [e]; exact more_at b s p _ w hs hR hp rfl

end Go.Proofs.YtaipifjmkbcjjaaDoor
