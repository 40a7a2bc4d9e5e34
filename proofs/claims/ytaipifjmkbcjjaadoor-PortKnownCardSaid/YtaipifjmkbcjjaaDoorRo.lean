/- Walks: the reference's reader of forms. -/
import Derived.Test.YtaipifjmkbcjjaaDoorH
namespace Go.Proofs.YtaipifjmkbcjjaaDoor
open Go.RowKit Go.Sort

set_option maxHeartbeats 400000 in
theorem ro_no (b : Nat) (s of : ByteArray) (p : Nat) (ok : Bool) (w : World) (_hs : s.size ≤ maxLen) (hR : Rd 110 b s p (!ok) w) (h : ok = false ∨ s.size ≤ p) :
    Calls Tryd.prog 73 #[.pointer (some ⟨b, 0, none⟩), .string of] w fun e w' => e = .returned (.int .i64 0) ∧ Rd 110 b s p true w' ∧ w.grownBy w' (some b) := by
  unfold maxLen at _hs
  have c0 := hR.c0
  have c1 := hR.c1
  have c2 := hR.c2
  have f2 := hR.fr 2
  cases ok with
  | false =>
    simp only [Bool.not_false] at c2 hR
    go_enter Tryd.func73, Tryd.ntmps73
    go_wp2
    go_quiet (fail)
    go_wp2
    go_ret
    exact ⟨rfl, Rd.setOk (w := w.drewN nq) (by exact hR) true, grown_trans (grown_draw nq) grown_set⟩
  | true =>
    have h : s.size ≤ p := by simpa using h
    simp only [Bool.not_true] at c2 hR
    go_enter Tryd.func73, Tryd.ntmps73
    go_wp2
    go_quiet (fail)
    go_wp2
    go_ret
    exact ⟨rfl, Rd.setOk (w := w.drewN nq) (by exact hR) true, grown_trans (grown_draw nq) grown_set⟩

theorem drewN_add (w : World) (a b : Nat) : (w.drewN a).drewN b = w.drewN (a + b) := by
  simp [World.drewN, Nat.add_assoc]

set_option maxHeartbeats 400000 in
theorem ro_at (b : Nat) (s of : ByteArray) (p : Nat) (c : UInt8) (w : World) (hs : s.size ≤ maxLen) (ho : of.size ≤ maxLen) (hR : Rd 110 b s p false w) (hp : p < s.size) (hc : s[p] = c)
    (r : Int) (p' : Nat) (ok' : Bool) (hres : (r, p', ok') = if ixI of.data.toList (bn c) 0 < 0 then (0, p, false) else (ixI of.data.toList (bn c) 0, p + 1, true)) :
    Calls Tryd.prog 73 #[.pointer (some ⟨b, 0, none⟩), .string of] w fun e w' => e = .returned (.int .i64 r) ∧ Rd 110 b s p' (!ok') w' ∧ w.grownBy w' (some b) := by
  have Hres := Lib.hid hres
  clear hres
  unfold maxLen at hs ho
  have c0 := hR.c0
  have c1 := hR.c1
  have c2 := hR.c2
  have hp2 : (p : Int) < s.size := by omega
  have hp1 : (0 : Int) ≤ p := by omega
  go_enter Tryd.func73, Tryd.ntmps73
  go_wp2
  go_quiet (fail)
  go_wp2
  have HG : Hid (Rd 110 b s p false (w.drewN nq)) := hR
  have HW : Hid (w.grownBy (w.drewN nq) (some b)) := grown_draw nq
  clear c0 c1 c2 hR
  generalize w.drewN nq = W at *
  go_loopw [5] (fun i wr => ∃ k : Nat, k ≤ of.size ∧ i = .int .i64 k ∧ Rd 110 b s p false wr ∧ w.grownBy wr (some b) ∧ ixI (of.data.toList.drop k) (bn c) k = ixI of.data.toList (bn c) 0)
    (fun i _ => of.size - (intOf i).toNat)
  case atStart => exact ⟨0, by omega, rfl, HG.out, HW.out, by simp⟩
  case round =>
    obtain ⟨k, hk, rfl, hR, hgr, hix⟩ := hrel
    have Hix := Lib.hid hix
    have HR := Lib.hid hR
    have HGR := Lib.hid hgr
    clear hix HG HW
    have c0 := hR.c0
    have c1 := hR.c1
    have c2 := hR.c2
    have f1 := hR.fr 1
    have f2 := hR.fr 2
    clear hR hgr
    by_cases hlt : k < of.size
    · have hd := Lib.hid (ixI_drop of (bn c) k hlt)
      have hk2 : (k : Int) < of.size := by omega
      have hk1 : (0 : Int) ≤ k := by omega
      have hwr : IntKind.i64.wrap ((p : Int) + 1) = (p : Int) + 1 := IntWalk.i64_in _ (by omega)
      go_wp2
      go_quiet (fail)
      have HR2 : Hid (Rd 110 b s p false (wr.drewN nq)) := HR.out
      have HG2 : Hid (w.grownBy (wr.drewN nq) (some b)) := grown_trans HGR.out (grown_draw nq)
      by_cases he : bn (of[k]'hlt) = bn c
      · have hq : (((of[k]'hlt).toNat : Int) == (c.toNat : Int)) = true := by simpa [bn] using he
        have hdo := hd.out
        rw [if_pos he] at hdo
        go_wp2
        go_ret
        have hres := Hres.out
        rw [← Hix.out, hdo, if_neg (by omega)] at hres
        simp only [Prod.mk.injEq] at hres
        obtain ⟨rfl, rfl, rfl⟩ := hres
        exact ⟨rfl, HR2.out.setP (p + 1), grown_trans HG2.out grown_set⟩
      · have hq : (((of[k]'hlt).toNat : Int) == (c.toNat : Int)) = false := by simpa [bn] using he
        have hdo := hd.out
        rw [if_neg he] at hdo
        go_wp2
        refine ⟨⟨k + 1, by omega, by go_num, HR2.out, HG2.out, by rw [← Hix.out, hdo]; rfl⟩, ?_⟩
        simp [intOf]; omega
    · have hk2 : ¬ (k : Int) < of.size := by omega
      go_wp2
      go_ret
      have hres := Hres.out
      rw [← Hix.out, List.drop_of_length_le (by simp; omega)] at hres
      rw [show ixI [] (bn c) k = -1 from rfl, if_pos (by decide)] at hres
      simp only [Prod.mk.injEq] at hres
      obtain ⟨rfl, rfl, rfl⟩ := hres
      exact ⟨rfl, HR.out.setOk true, grown_trans HGR.out grown_set⟩

theorem ro_any (b : Nat) (s of : ByteArray) (p : Nat) (ok : Bool) (w : World) (hs : s.size ≤ maxLen) (ho : of.size ≤ maxLen) (hR : Rd 110 b s p (!ok) w) :
    Calls Tryd.prog 73 #[.pointer (some ⟨b, 0, none⟩), .string of] w fun e w' => e = .returned (.int .i64 (rdS s.data.toList of.data.toList p ok).1) ∧
      Rd 110 b s (rdS s.data.toList of.data.toList p ok).2.1 (!(rdS s.data.toList of.data.toList p ok).2.2) w' ∧ w.grownBy w' (some b) := by
  have hl : s.data.toList.length = s.size := by simp
  by_cases h : ok = false ∨ s.size ≤ p
  · simp only [rdS, hl, if_pos h]
    exact ro_no b s of p ok w hs hR h
  · have h' := h
    simp only [not_or, Bool.not_eq_false, Nat.not_le] at h'
    obtain ⟨rfl, hp⟩ := h'
    refine ro_at b s of p (s[p]'hp) w hs ho hR hp rfl _ _ _ ?_
    rw [← byte_at s p hp]
    simp only [rdS, hl, if_neg h]
end Go.Proofs.YtaipifjmkbcjjaaDoor
