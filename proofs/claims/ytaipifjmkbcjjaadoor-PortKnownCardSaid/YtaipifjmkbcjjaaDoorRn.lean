/- Walks: the reference's number of a form. -/
import Derived.Test.YtaipifjmkbcjjaaDoorRo
import Derived.Test.YtaipifjmkbcjjaaDoorJ
namespace Go.Proofs.YtaipifjmkbcjjaaDoor
open Go.RowKit Go.Sort

theorem isDig_iff (b : UInt8) : isDig b = (decide (48 ≤ b.toNat) && decide (b.toNat ≤ 57)) := by
  have h : ∀ n : Fin 256, isDig (UInt8.ofNat n.val) = (decide (48 ≤ (UInt8.ofNat n.val).toNat) && decide ((UInt8.ofNat n.val).toNat ≤ 57)) := by decide +kernel
  have := h ⟨b.toNat, b.toNat_lt⟩
  simpa using this

set_option maxHeartbeats 8000000 in
theorem ronum_any (b : Nat) (s : ByteArray) (p : Nat) (ok : Bool) (w : World) (hs : s.size ≤ maxLen) (hR : Rd 110 b s p (!ok) w) :
    Calls Tryd.prog 74 #[.pointer (some ⟨b, 0, none⟩)] w fun e w' => e = .returned (.int .i64 (numS s.data.toList p ok).1) ∧
      Rd 110 b s (numS s.data.toList p ok).2.1 (!(numS s.data.toList p ok).2.2) w' ∧ w.grownBy w' (some b) := by
  have he := digs10
  have hm : (bs digL).size ≤ maxLen := by rw [bs_size]; unfold maxLen; simp
  have hb1 := rdS_bound s.data.toList digL p ok
  have hl : (digL.length : Int) = 10 := rfl
  obtain ⟨n1, p1, ok1, hr1⟩ : ∃ n1 p1 ok1, rdS s.data.toList digL p ok = (n1, p1, ok1) := ⟨_, _, _, rfl⟩
  obtain ⟨n2, p2, ok2, hr2⟩ : ∃ n2 p2 ok2, rdS s.data.toList digL p1 ok1 = (n2, p2, ok2) := ⟨_, _, _, rfl⟩
  have hb2 := rdS_bound s.data.toList digL p1 ok1
  rw [hl, hr1] at hb1
  rw [hl, hr2] at hb2
  obtain ⟨n1a, n1b, -⟩ := hb1
  obtain ⟨n2a, n2b, -⟩ := hb2
  simp only [] at n1a n1b n2a n2b
  have hres : numS s.data.toList p ok = if 0 < n1 ∧ moreS s.data.toList p1 ok1 = true then (10 * n1 + n2, p2, ok2) else (n1, p1, ok1) := by
    unfold numS; rw [hr1]; simp only []; rw [hr2]
  have hone : ∀ W, Rd 110 b s p (!ok) W → Calls Tryd.prog 73 #[.pointer (some ⟨b, 0, none⟩), .string (bs digL)] W fun e w' => e = .returned (.int .i64 n1) ∧ Rd 110 b s p1 (!ok1) w' ∧ W.grownBy w' (some b) := fun W h => by
    have := ro_any b s (bs digL) p ok W hs hm h
    rw [bs_list, hr1] at this; exact this
  have htwo : ∀ W, Rd 110 b s p1 (!ok1) W → Calls Tryd.prog 73 #[.pointer (some ⟨b, 0, none⟩), .string (bs digL)] W fun e w' => e = .returned (.int .i64 n2) ∧ Rd 110 b s p2 (!ok2) w' ∧ W.grownBy w' (some b) := fun W h => by
    have := ro_any b s (bs digL) p1 ok1 W hs hm h
    rw [bs_list, hr2] at this; exact this
  generalize numS s.data.toList p ok = res at *
  have Hres := Lib.hid hres
  clear hres
  have hmo : moreS s.data.toList p1 ok1 = (ok1 && decide (p1 < s.size) && isDig (s.data.toList.getD p1 0)) := by unfold moreS; simp
  go_enter Tryd.func74, Tryd.ntmps74
  go_wp2_with (go_at_call 73; refine (hone _ hR).mono ?_; rintro e w1 ⟨rfl, hR1, hg1⟩)
  have c0 := hR1.c0
  have c1 := hR1.c1
  have c2 := hR1.c2
  clear hone hR hr1 hr2
  have hs2 := hs
  unfold maxLen at hs2
  have hp1 : (0 : Int) ≤ p1 := by omega
  rcases (show ok1 = false ∨ (ok1 = true ∧ n1 = 0) ∨ (ok1 = true ∧ 0 < n1 ∧ s.size ≤ p1) ∨ (ok1 = true ∧ 0 < n1 ∧ p1 < s.size) by
      rcases Bool.eq_false_or_eq_true ok1 with h | h
      · rcases (show n1 = 0 ∨ 0 < n1 by omega) with h' | h'
        · exact .inr (.inl ⟨h, h'⟩)
        · rcases Nat.lt_or_ge p1 s.size with h2 | h2
          · exact .inr (.inr (.inr ⟨h, h', h2⟩))
          · exact .inr (.inr (.inl ⟨h, h', h2⟩))
      · exact .inl h) with rfl | ⟨rfl, rfl⟩ | ⟨rfl, hn, hge⟩ | ⟨rfl, hn, hlt⟩
  · have hmF : moreS s.data.toList p1 false = false := by rw [hmo]; simp
    simp only [Bool.not_false] at c2
    go_quiet (fail)
    go_wp2
    go_ret
    have hres := Hres.out
    rw [hmF, if_neg (by simp)] at hres
    subst hres
    exact ⟨rfl, hR1, grown_trans hg1 (grown_draw nq)⟩
  · have hres := Hres.out
    rw [if_neg (by simp)] at hres
    subst hres
    simp only [Bool.not_true] at c2
    go_quiet (fail)
    go_wp2
    go_ret
    exact ⟨rfl, hR1, grown_trans hg1 (grown_draw nq)⟩
  · have hmF : moreS s.data.toList p1 true = false := by rw [hmo]; simp; omega
    have hn0 : (n1 == 0) = false := by simp; omega
    have hge2 : decide ((s.size : Int) ≤ (p1 : Int)) = true := by simpa using hge
    simp only [Bool.not_true] at c2
    go_quiet (fail)
    go_wp2
    go_ret
    have hres := Hres.out
    rw [hmF, if_neg (by simp)] at hres
    subst hres
    exact ⟨rfl, hR1, grown_trans hg1 (grown_draw nq)⟩
  · have hn0 : (n1 == 0) = false := by simp; omega
    have hge2 : decide ((s.size : Int) ≤ (p1 : Int)) = false := by simpa using hlt
    have hge3 : decide (s.size ≤ p1) = false := by simpa using hlt
    have hp2 : (p1 : Int) < s.size := by omega
    rw [byte_at s p1 hlt, isDig_iff] at hmo
    obtain ⟨x, hx⟩ : ∃ x, s[p1]'hlt = x := ⟨_, rfl⟩
    rw [hx] at hmo
    simp only [Bool.not_true] at c2
    rcases (show x.toNat < 48 ∨ 57 < x.toNat ∨ (48 ≤ x.toNat ∧ x.toNat ≤ 57) by omega) with h | h | ⟨h, h'⟩
    · have hmF : moreS s.data.toList p1 true = false := by rw [hmo]; simp; omega
      have t1 : decide ((x.toNat : Int) < 48) = true := by simp; omega
      go_quiet (fail)
      go_wp2
      go_ret
      have hres := Hres.out
      rw [hmF, if_neg (by simp)] at hres
      subst hres
      exact ⟨rfl, hR1, grown_trans hg1 (grown_draw nq)⟩
    · have hmF : moreS s.data.toList p1 true = false := by rw [hmo]; simp; omega
      have t1 : decide ((x.toNat : Int) < 48) = false := by simp; omega
      have t2 : decide ((57 : Int) < (x.toNat : Int)) = true := by simp; omega
      go_quiet (fail)
      go_wp2
      go_ret
      have hres := Hres.out
      rw [hmF, if_neg (by simp)] at hres
      subst hres
      exact ⟨rfl, hR1, grown_trans hg1 (grown_draw nq)⟩
    · have hmT : moreS s.data.toList p1 true = true := by rw [hmo]; simp; omega
      have t1 : decide ((x.toNat : Int) < 48) = false := by simp; omega
      have t2 : decide ((57 : Int) < (x.toNat : Int)) = false := by simp; omega
      go_quiet (fail)
      have HR2 : Rd 110 b s p1 (!true) (w1.drewN nq) := hR1
      have HG2 : Hid (w.grownBy (w1.drewN nq) (some b)) := grown_trans hg1 (grown_draw nq)
      generalize w1.drewN nq = W at *
      clear c0 c1 c2 hR1 hg1
      go_wp2_with (go_at_call 73; refine (htwo _ HR2).mono ?_; rintro e w3 ⟨rfl, hR3, hg3⟩)
      go_ret
      have hres := Hres.out
      rw [hmT, if_pos ⟨hn, rfl⟩] at hres
      subst hres
      exact ⟨ret_int (by simp), hR3, grown_trans HG2.out hg3⟩
end Go.Proofs.YtaipifjmkbcjjaaDoor
