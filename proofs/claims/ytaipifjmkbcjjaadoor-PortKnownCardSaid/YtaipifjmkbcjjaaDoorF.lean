/- Walks: the reference writes frames. -/
import Derived.Test.YtaipifjmkbcjjaaDoorE
namespace Go.Proofs.YtaipifjmkbcjjaaDoor
open Go.RowKit

attribute [local go_sem] bs_size bs_append

theorem hex_sl (n : Int) (h0 : 0 ≤ n) (h1 : n < 16) : ({ data := #[48, 49, 50, 51, 52, 53, 54, 55, 56, 57, 97, 98, 99, 100, 101, 102] } : ByteArray).extract n.toNat (n + 1).toNat = bs [hexd n.toNat] := by
  have e : (n + 1).toNat = n.toNat + 1 := by omega
  rw [e]; exact hex_slice n.toNat (by omega)

theorem digs_lo (n : Nat) (h : n < 10) : digs n = [hexd n] := by
  have k : ∀ n : Fin 10, digs n.val = [hexd n.val] := by decide
  exact k ⟨n, h⟩
theorem digs_hi (n : Nat) (h : 10 ≤ n) (h1 : n < 100) : digs n = [hexd (n / 10), hexd (n % 10)] := by
  have k : ∀ n : Fin 90, digs (n.val + 10) = [hexd ((n.val + 10) / 10), hexd ((n.val + 10) % 10)] := by decide
  have := k ⟨n - 10, by omega⟩
  have e : n - 10 + 10 = n := by omega
  rw [e] at this; exact this

set_option maxHeartbeats 400000 in
theorem digits_lo (n : Int) (w : World) (h0 : 0 ≤ n) (h1 : n < 10) :
    Calls Tryd.prog 81 #[.int .i64 n] w fun e w' => e = .returned (.string (bs [hexd n.toNat])) ∧ w = w' := by
  have hx := Lib.hid (hex_sl n h0 (by omega))
  go_enter Tryd.func81, Tryd.ntmps81
  go_wp2
  go_ret
  exact ⟨ret_str hx.out, rfl⟩

set_option maxHeartbeats 400000 in
theorem digits_hi (n : Int) (w : World) (h0 : 10 ≤ n) (h1 : n < 100) :
    Calls Tryd.prog 81 #[.int .i64 n] w fun e w' => e = .returned (.string (bs [hexd (n.toNat / 10), hexd (n.toNat % 10)])) ∧ ∃ m, w' = w.drewN m := by
  have hx := hex_sl (n % 10) (by omega) (by omega)
  have hd1 : 0 ≤ n / 10 := by omega
  have hd2 : n / 10 < 10 := by omega
  go_enter Tryd.func81, Tryd.ntmps81
  go_wp2
  go_quiet ((go_at_call 81; exact q_same (digits_lo _ _ hd1 hd2)))
  go_wp2
  go_ret
  exact ⟨ret_str (by rw [show n.toNat / 10 = (n / 10).toNat by omega, show n.toNat % 10 = (n % 10).toNat by omega]), nq, rfl⟩

theorem digits_any (n : Int) (w : World) (h0 : 0 ≤ n) (h1 : n < 100) :
    Calls Tryd.prog 81 #[.int .i64 n] w fun e w' => e = .returned (.string (bs (digs n.toNat))) ∧ ∃ m, w' = w.drewN m := by
  by_cases h : n < 10
  · rw [digs_lo _ (by omega)]
    exact (digits_lo n w h0 h).mono fun e w' ⟨he, hw⟩ => ⟨he, 0, hw.symm⟩
  · rw [digs_hi _ (by omega) (by omega)]
    exact digits_hi n w (by omega) h1

set_option maxHeartbeats 1000000 in
theorem refEncode_ok (t k a b : Int) (w : World) (h : chk t k a b = 0) :
    Calls Tryd.prog 57 #[.agg #[.int .i64 t, .int .i64 k, .int .i64 a, .int .i64 b]] w fun e w' => e = .returned (.tuple #[.string (bs (form t k a b)), .int .i64 0]) ∧ Below w.heap.size w w' := by
  obtain ⟨t1, t2, k1, k2, a1, a2, b1, b2⟩ := chk_ok h
  go_enter Tryd.func57, Tryd.ntmps57
  have H := Lib.hid h
  clear h
  go_wp2_with (go_at_call 59; refine (refCheck_any _ _ _ _ _).mono ?_; rintro e w1 ⟨rfl, hb⟩; rw [H.out]; obtain ⟨hc, hf⟩ := bcell hb)
  have hz : w.heap.size + 1 ≤ w1.heap.size := by have := hb.size; simpa using this
  have c0 : (w1.alloc (Obj.cells #[.int .i64 k, .int .i64 a, .int .i64 b] 43)).cell? ⟨w.heap.size, 0, none⟩ = some (.int .i64 t) := by
    exact cell_alloc_old (by omega) (cell_below hb (by simp) (by simp))
  have c1 : (w1.alloc (Obj.cells #[.int .i64 k, .int .i64 a, .int .i64 b] 43)).cell? ⟨w1.heap.size, 0, none⟩ = some (.int .i64 k) := by simp
  have c2 : (w1.alloc (Obj.cells #[.int .i64 k, .int .i64 a, .int .i64 b] 43)).cell? ⟨w1.heap.size, 1, none⟩ = some (.int .i64 a) := by simp
  have c3 : (w1.alloc (Obj.cells #[.int .i64 k, .int .i64 a, .int .i64 b] 43)).cell? ⟨w1.heap.size, 2, none⟩ = some (.int .i64 b) := by simp
  have hb2 : Below w.heap.size w (w1.alloc (Obj.cells #[.int .i64 k, .int .i64 a, .int .i64 b] 43)) :=
    (((Below.refl _ _).alloc (Nat.le_refl _) _).trans (hb.mono (by simp))).alloc (by omega) _
  clear hc hf hb
  generalize w1.alloc (Obj.cells #[.int .i64 k, .int .i64 a, .int .i64 b] 43) = W2 at *
  have hts : ({ data := #[80, 83, 68] } : ByteArray).extract (t.toNat - 1) t.toNat = bs [tagB t] := by
    have h := tag_slice t t1 t2; rw [show (t - 1).toNat = t.toNat - 1 by omega] at h; exact h
  have hks : ({ data := #[104, 99, 107, 109] } : ByteArray).extract (k.toNat - 1) k.toNat = bs [kindB k] := by
    have h := kind_slice k k1 k2; rw [show (k - 1).toNat = k.toNat - 1 by omega] at h; exact h
  have e44 : ({ data := #[44] } : ByteArray) = bs [44] := rfl
  have e59 : ({ data := #[59] } : ByteArray) = bs [59] := rfl
  have la := digs_len a.toNat
  have lb := digs_len b.toNat
  have lp := pay_len t k a b
  go_quiet ((go_at_call 81; exact Calls.quiet_of (digits_any _ _ (by omega) (by omega))))
  have e60 : ({ data := #[60] } : ByteArray) = bs [60] := rfl
  have e62 : ({ data := #[62] } : ByteArray) = bs [62] := rfl
  have h0 := bn_nonneg (crc (pay t k a b))
  have h1 := bn_lt (crc (pay t k a b))
  have s1 := hex_sl (bn (crc (pay t k a b)) / 16) (by omega) (by omega)
  have s2 := hex_sl (bn (crc (pay t k a b)) % 16) (by omega) (by omega)
  have HX : Hid ([hexd (bn (crc (pay t k a b)) / 16).toNat, hexd (bn (crc (pay t k a b)) % 16).toNat] = hexS (crc (pay t k a b))) := by
    show _ = _
    have := (crc (pay t k a b)).toNat_lt
    unfold hexS bn; congr 1
  go_wp2_with (go_at_call 75; refine (refSum_any (bs (pay t k a b)) _ (by rw [bs_size]; unfold maxLen; omega)).mono ?_; rintro e w3 ⟨rfl, rfl⟩; rw [bs_list])
  generalize bn (crc (pay t k a b)) = c at *
  go_quiet (fail)
  go_wp2
  go_ret2
  refine ⟨ret_str_int ?_, belowN (belowN hb2 _) _⟩
  · rw [form, ← HX.out]; simp [pay]

set_option maxHeartbeats 400000 in
theorem refEncode_bad (t k a b : Int) (w : World) (h : chk t k a b ≠ 0) :
    Calls Tryd.prog 57 #[.agg #[.int .i64 t, .int .i64 k, .int .i64 a, .int .i64 b]] w fun e w' => e = .returned (.tuple #[.string (bs []), .int .i64 (chk t k a b)]) ∧ Below w.heap.size w w' := by
  have hne : (chk t k a b != 0) = true := by simpa using h
  go_enter Tryd.func57, Tryd.ntmps57
  clear h
  go_wp2_with (go_at_call 59; refine (refCheck_any _ _ _ _ _).mono ?_; rintro e w1 ⟨rfl, hb⟩)
  go_ret2
  exact ⟨rfl, ((Below.refl _ _).alloc (Nat.le_refl _) _).trans (hb.mono (by simp))⟩

theorem refEncode_any (t k a b : Int) (w : World) :
    Calls Tryd.prog 57 #[.agg #[.int .i64 t, .int .i64 k, .int .i64 a, .int .i64 b]] w fun e w' => e = .returned (.tuple #[.string (bs (encF t k a b).1), .int .i64 (encF t k a b).2]) ∧ Below w.heap.size w w' := by
  by_cases h : chk t k a b = 0
  · simp only [encF, if_pos h]; exact refEncode_ok t k a b w h
  · simp only [encF, if_neg h]; exact refEncode_bad t k a b w h

set_option maxHeartbeats 400000 in
theorem refLength_any (t k a b : Int) (w : World) :
    Calls Tryd.prog 58 #[.agg #[.int .i64 t, .int .i64 k, .int .i64 a, .int .i64 b]] w fun e w' => e = .returned (.tuple #[.int .i64 (encF t k a b).1.length, .int .i64 (encF t k a b).2]) ∧ Below w.heap.size w w' := by
  have hl := encF_len t k a b
  go_enter Tryd.func58, Tryd.ntmps58
  go_wp2_with (go_at_call 57; refine (refEncode_any _ _ _ _ _).mono ?_; rintro e w1 ⟨rfl, hb⟩)
  go_ret2
  exact ⟨rfl, ((Below.refl _ _).alloc (Nat.le_refl _) _).trans (hb.mono (by simp))⟩

end Go.Proofs.YtaipifjmkbcjjaaDoor
