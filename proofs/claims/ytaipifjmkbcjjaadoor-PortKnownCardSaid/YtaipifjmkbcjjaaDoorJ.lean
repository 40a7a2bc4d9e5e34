/- Walks: a number of a form. -/
import Derived.Test.YtaipifjmkbcjjaaDoorI
namespace Go.Proofs.YtaipifjmkbcjjaaDoor
open Go.RowKit Go.Sort

abbrev digL : List UInt8 := [48, 49, 50, 51, 52, 53, 54, 55, 56, 57]

theorem ixI_bound (l : List UInt8) (n : Int) : ∀ i : Int, ixI l n i = -1 ∨ (i ≤ ixI l n i ∧ ixI l n i < i + l.length) := by
  induction l with
  | nil => intro i; left; rfl
  | cons c l ih =>
    intro i
    simp only [ixI, List.length_cons]
    split
    · right; omega
    · rcases ih (i + 1) with h | h
      · left; exact h
      · right; omega

theorem rdS_bound (s of : List UInt8) (p : Nat) (ok : Bool) : 0 ≤ (rdS s of p ok).1 ∧ (rdS s of p ok).1 < of.length + 1 ∧ p ≤ (rdS s of p ok).2.1 ∧ ((rdS s of p ok).2.1 ≤ p + 1) ∧ (p ≤ s.length → (rdS s of p ok).2.1 ≤ s.length) := by
  unfold rdS
  split
  · simp
  · rename_i h
    have hb := ixI_bound of (bn (s.getD p 0)) 0
    split
    · simp
    · simp only [not_or] at h
      refine ⟨?_, ?_, ?_, ?_, ?_⟩ <;> simp only [] <;> omega

/-- A number of one or two digits. -/
def numS (s : List UInt8) (p : Nat) (ok : Bool) : Int × Nat × Bool :=
  let r := rdS s digL p ok
  if 0 < r.1 ∧ moreS s r.2.1 r.2.2 = true then
    let q := rdS s digL r.2.1 r.2.2
    (10 * r.1 + q.1, q.2.1, q.2.2)
  else r

set_option maxHeartbeats 400000 in
theorem number_any (b : Nat) (s : ByteArray) (p : Nat) (ok : Bool) (w : World) (hs : s.size ≤ maxLen) (hR : Rd 104 b s p ok w) :
    Calls Tryd.prog 71 #[.pointer (some ⟨b, 0, none⟩)] w fun e w' => e = .returned (.int .i64 (numS s.data.toList p ok).1) ∧
      Rd 104 b s (numS s.data.toList p ok).2.1 (numS s.data.toList p ok).2.2 w' ∧ w.grownBy w' (some b) := by
  have he := digs10
  have ha : ∀ k (h : k < (bs digL).size), ((bs digL)[k]'h).toNat < 128 := by
    have : ∀ c ∈ digL, c.toNat < 128 := by decide
    intro k h
    exact this _ (by have := Array.getElem_mem_toList (xs := (bs digL).data) h; rwa [bs_list] at this)
  have hm : (bs digL).size ≤ maxLen := by rw [bs_size]; unfold maxLen; simp
  have hb1 := rdS_bound s.data.toList digL p ok
  have hl : (digL.length : Int) = 10 := rfl
  have Hn : Hid (numS s.data.toList p ok = numS s.data.toList p ok) := rfl
  obtain ⟨n1, p1, ok1, hr1⟩ : ∃ n1 p1 ok1, rdS s.data.toList digL p ok = (n1, p1, ok1) := ⟨_, _, _, rfl⟩
  obtain ⟨n2, p2, ok2, hr2⟩ : ∃ n2 p2 ok2, rdS s.data.toList digL p1 ok1 = (n2, p2, ok2) := ⟨_, _, _, rfl⟩
  obtain ⟨m, hmo⟩ : ∃ m, moreS s.data.toList p1 ok1 = m := ⟨_, rfl⟩
  have hb2 := rdS_bound s.data.toList digL p1 ok1
  rw [hl, hr1] at hb1
  rw [hl, hr2] at hb2
  obtain ⟨n1a, n1b, -⟩ := hb1
  obtain ⟨n2a, n2b, -⟩ := hb2
  simp only [] at n1a n1b n2a n2b
  have H1 : Hid (Calls Tryd.prog 70 #[.pointer (some ⟨b, 0, none⟩), .string (bs digL)] w fun e w' => e = .returned (.int .i64 n1) ∧ Rd 104 b s p1 ok1 w' ∧ w.grownBy w' (some b)) := by
    have h1 := rune_any b s (bs digL) p ok w hs hm ha hR
    rw [bs_list, hr1] at h1
    exact h1
  have H2 : Hid (∀ w, Rd 104 b s p1 ok1 w → Calls Tryd.prog 70 #[.pointer (some ⟨b, 0, none⟩), .string (bs digL)] w fun e w' => e = .returned (.int .i64 n2) ∧ Rd 104 b s p2 ok2 w' ∧ w.grownBy w' (some b)) := by
    intro w hR
    have h1 := rune_any b s (bs digL) p1 ok1 w hs hm ha hR
    rw [bs_list, hr2] at h1
    exact h1
  have H3 : Hid (∀ w, Rd 104 b s p1 ok1 w → Calls Tryd.prog 85 #[.pointer (some ⟨b, 0, none⟩)] w fun e w' => e = .returned (.bool m) ∧ ∃ n, w' = w.drewN n) := by
    intro w hR
    have h1 := more_any b s p1 ok1 w hs hR
    rw [hmo] at h1
    exact h1
  have hnum : numS s.data.toList p ok = if 0 < n1 ∧ m = true then (10 * n1 + n2, p2, ok2) else (n1, p1, ok1) := by
    simp only [numS, hr1, hmo, hr2]
  rw [hnum]
  clear hr1 hr2 hmo ha hnum Hn
  by_cases hc : 0 < n1 ∧ m = true
  · rw [if_pos hc]
    obtain ⟨hc1, rfl⟩ := hc
    go_enter Tryd.func71, Tryd.ntmps71
    go_wp2_with fail
    refine H1.out.mono ?_
    rintro e w1 ⟨rfl, hR1, hg1⟩
    go_wp2_with fail
    refine (H3.out _ hR1).mono ?_
    rintro e w2 ⟨rfl, nq, rfl⟩
    go_wp2_with fail
    refine (H2.out (w1.drewN nq) hR1).mono ?_
    rintro e w3 ⟨rfl, hR3, hg3⟩
    go_wp2
    go_ret
    exact ⟨ret_int (by omega), hR3, grown_trans hg1 (grown_trans (grown_draw nq) hg3)⟩
  · rw [if_neg hc]
    by_cases hc1 : 0 < n1
    · have hm' : m = false := by simpa [hc1] using hc
      subst hm'
      go_enter Tryd.func71, Tryd.ntmps71
      go_wp2_with fail
      refine H1.out.mono ?_
      rintro e w1 ⟨rfl, hR1, hg1⟩
      go_wp2_with fail
      refine (H3.out _ hR1).mono ?_
      rintro e w2 ⟨rfl, nq, rfl⟩
      go_wp2
      go_ret
      exact ⟨rfl, hR1, grown_trans hg1 (grown_draw nq)⟩
    · go_enter Tryd.func71, Tryd.ntmps71
      go_wp2_with fail
      refine H1.out.mono ?_
      rintro e w1 ⟨rfl, hR1, hg1⟩
      go_wp2
      go_ret
      exact ⟨rfl, hR1, hg1⟩

end Go.Proofs.YtaipifjmkbcjjaaDoor
