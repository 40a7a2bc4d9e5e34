/- Walks: frames written. -/
import Derived.Test.YtaipifjmkbcjjaaDoorZB
import Derived.Deep.QuietTactic
import Derived.BigQuiet
import Derived.Lib.QuietBelow
namespace Go.Proofs.YtaipifjmkbcjjaaDoor
open Go.RowKit

theorem ret_str {a b : ByteArray} (h : a = b) : Ending.returned (.string a) = .returned (.string b) := by rw [h]

theorem sum_eq (b : UInt8) : hexText.extract (bn b / 16).toNat (bn b / 16 + 1).toNat ++ hexText.extract (bn b % 16).toNat (bn b % 16 + 1).toNat = bs (hexS b) := by
  have h := b.toNat_lt
  have e1 : (bn b / 16).toNat = b.toNat / 16 := by unfold bn; omega
  have e2 : (bn b / 16 + 1).toNat = b.toNat / 16 + 1 := by unfold bn; omega
  have e3 : (bn b % 16).toNat = b.toNat % 16 := by unfold bn; omega
  have e4 : (bn b % 16 + 1).toNat = b.toNat % 16 + 1 := by unfold bn; omega
  rw [e1, e2, e3, e4, hex_slice _ (by omega), hex_slice _ (by omega), bs_append]
  rfl

set_option maxHeartbeats 400000 in
theorem sum_any (s : ByteArray) (w : World) (hs : s.size ≤ maxLen) (hg : Glob w) :
    Calls Tryd.prog 72 #[.string s] w fun e w' => e = .returned (.string (bs (hexS (crc s.data.toList)))) ∧ Below w.heap.size w w' := by
  go_enter Tryd.func72, Tryd.ntmps72
  go_wp2_with (go_at_call 86; refine (crcSum_any _ _ hs hg).mono ?_; rintro e w1 ⟨rfl, hb⟩)
  have h0 := bn_nonneg (crc s.data.toList)
  have h1 := bn_lt (crc s.data.toList)
  have he := Lib.hid (sum_eq (crc s.data.toList))
  generalize bn (crc s.data.toList) = c at *
  go_region
  go_wp2
  go_ret
  exact ⟨ret_str he.out, hb.drew⟩

theorem small_eq1 (n : Int) (h0 : 0 ≤ n) (h1 : n < 10) : ({ data := #[48, 49, 50, 51, 52, 53, 54, 55, 56, 57, 97, 98, 99, 100, 101, 102, 103, 104, 105, 106, 107, 108, 109, 110, 111, 112, 113, 114, 115, 116, 117, 118, 119, 120, 121, 122] } : ByteArray).extract n.toNat (n + 1).toNat = bs (digs n.toNat) := by
  have e : (n + 1).toNat = n.toNat + 1 := by omega
  rw [e]
  have k : ∀ n : Fin 10, ({ data := #[48, 49, 50, 51, 52, 53, 54, 55, 56, 57, 97, 98, 99, 100, 101, 102, 103, 104, 105, 106, 107, 108, 109, 110, 111, 112, 113, 114, 115, 116, 117, 118, 119, 120, 121, 122] } : ByteArray).extract n.val (n.val + 1) = bs (digs n.val) := by decide
  exact k ⟨n.toNat, by omega⟩

def smallText : ByteArray := bs ((List.range 100).flatMap fun n => [UInt8.ofNat (48 + n / 10), UInt8.ofNat (48 + n % 10)])
theorem small_eq2 (n : Int) (h0 : 10 ≤ n) (h1 : n < 100) : smallText.extract (n * 2).toNat (n * 2 + 2).toNat = bs (digs n.toNat) := by
  have e : (n * 2 + 2).toNat = n.toNat * 2 + 2 := by omega
  have e' : (n * 2).toNat = n.toNat * 2 := by omega
  rw [e, e']
  have k : ∀ n : Fin 90, smallText.extract ((n.val + 10) * 2) ((n.val + 10) * 2 + 2) = bs (digs (n.val + 10)) := by decide +kernel
  have := k ⟨n.toNat - 10, by omega⟩
  have e2 : n.toNat - 10 + 10 = n.toNat := by omega
  simpa only [e2] using this

set_option maxRecDepth 100000 in
theorem small_any (n : Int) (w : World) (h0 : 0 ≤ n) (h1 : n < 100) :
    Calls Tryd.prog 102 #[.int .i64 n] w fun e w' => e = .returned (.string (bs (digs n.toNat))) ∧ w = w' := by
  by_cases h : n < 10
  · have he := Lib.hid (small_eq1 n h0 h)
    go_enter Tryd.func102, Tryd.ntmps102
    go_wp2
    go_ret
    exact ⟨ret_str he.out, rfl⟩
  · have hl : 10 ≤ n := by omega
    have he := Lib.hid (small_eq2 n hl h1)
    clear h
    go_enter Tryd.func102, Tryd.ntmps102
    go_wp2
    go_ret
    exact ⟨ret_str he.out, rfl⟩

theorem formatInt_any (n : Int) (w : World) (h0 : 0 ≤ n) (h1 : n < 100) :
    Calls Tryd.prog 95 #[.int .i64 n, .int .i64 10] w fun e w' => e = .returned (.string (bs (digs n.toNat))) ∧ w = w' := by
  go_enter Tryd.func95, Tryd.ntmps95
  go_wp2_with (go_at_call 102; refine (small_any _ _ h0 h1).mono ?_; rintro e w1 ⟨rfl, rfl⟩)
  go_ret
  exact ⟨rfl, rfl⟩

theorem itoa1_any (n : Int) (w : World) (h0 : 0 ≤ n) (h1 : n < 100) :
    Calls Tryd.prog 90 #[.int .i64 n] w fun e w' => e = .returned (.string (bs (digs n.toNat))) ∧ w = w' := by
  go_enter Tryd.func90, Tryd.ntmps90
  go_wp2_with (go_at_call 95; refine (formatInt_any _ _ h0 h1).mono ?_; rintro e w1 ⟨rfl, rfl⟩)
  go_ret
  exact ⟨rfl, rfl⟩

theorem itoa_any (n : Int) (w : World) (h0 : 0 ≤ n) (h1 : n < 100) :
    Calls Tryd.prog 78 #[.int .i64 n] w fun e w' => e = .returned (.string (bs (digs n.toNat))) ∧ w = w' := by
  go_enter Tryd.func78, Tryd.ntmps78
  go_wp2_with (go_at_call 90; refine (itoa1_any _ _ h0 h1).mono ?_; rintro e w1 ⟨rfl, rfl⟩)
  go_ret
  exact ⟨rfl, rfl⟩

end Go.Proofs.YtaipifjmkbcjjaaDoor

/- Walks: frames checked and written. -/
namespace Go.Proofs.YtaipifjmkbcjjaaDoor
open Go.RowKit

set_option maxHeartbeats 400000 in
theorem check_any (t k a b : Int) (w : World) :
    Calls Tryd.prog 54 #[.agg #[.int .i64 t, .int .i64 k, .int .i64 a, .int .i64 b]] w fun e w' => e = .returned (.int .i64 (chk t k a b)) ∧ Below w.heap.size w w' := by
  go_enter Tryd.func54, Tryd.ntmps54
  go_wp2
  all_goals
    go_ret
    refine ⟨ret_int ?_, ?_⟩
    · unfold chk; repeat' split
      all_goals omega
    · first | exact ((Below.refl _ _).alloc (Nat.le_refl _) _) | exact ((Below.refl _ _).alloc (Nat.le_refl _) _).alloc (by simp) _

set_option maxHeartbeats 400000 in
theorem refCheck_any (t k a b : Int) (w : World) :
    Calls Tryd.prog 59 #[.agg #[.int .i64 t, .int .i64 k, .int .i64 a, .int .i64 b]] w fun e w' => e = .returned (.int .i64 (chk t k a b)) ∧ Below w.heap.size w w' := by
  go_enter Tryd.func59, Tryd.ntmps59
  go_wp2
  all_goals
    go_ret
    refine ⟨ret_int ?_, ?_⟩
    · unfold chk; repeat' split
      all_goals omega
    · first | exact ((Below.refl _ _).alloc (Nat.le_refl _) _) | exact ((Below.refl _ _).alloc (Nat.le_refl _) _).alloc (by simp) _

end Go.Proofs.YtaipifjmkbcjjaaDoor

/- Walks: frames written. -/
namespace Go.Proofs.YtaipifjmkbcjjaaDoor
open Go.RowKit

theorem q_same {P : Program} {f : FuncId} {args : Array Value} {w : World} {n : Nat} {v : Value}
    (h : Calls P f args (w.drewN n) fun e w' => e = .returned v ∧ w.drewN n = w') : Calls P f args (w.drewN n) fun e w'' => e = .returned v ∧ ∃ m, w'' = w.drewN m :=
  h.mono fun _ _ ⟨he, hm⟩ => ⟨he, n, hm.symm⟩

theorem belowN {B : Nat} {a w : World} (h : Below B a w) (n : Nat) : Below B a (w.drewN n) := ⟨h.os, h.tape, h.output, h.size, h.block⟩

theorem bcell {W w1 : World} (hb : Below W.heap.size W w1) : (∀ b o, b < W.heap.size → w1.cell? ⟨b, o, none⟩ = W.cell? ⟨b, o, none⟩) ∧ (∀ b o, b < W.heap.size → w1.frozen? ⟨b, o, none⟩ = W.frozen? ⟨b, o, none⟩) :=
  ⟨fun b o h => hb.cell (p := ⟨b, o, none⟩) h, fun b o h => hb.frozen (p := ⟨b, o, none⟩) h⟩

theorem cell_alloc_old {w : World} {o : Obj} {b off : Nat} {v : Value} (hb : b < w.heap.size) (h : w.cell? ⟨b, off, none⟩ = some v) : (w.alloc o).cell? ⟨b, off, none⟩ = some v :=
  (World.cell?_alloc_lt w o ⟨b, off, none⟩ hb).trans h
theorem cell_below {B : Nat} {w w' : World} {b off : Nat} {v : Value} (h : Below B w w') (hb : b < B) (hc : w.cell? ⟨b, off, none⟩ = some v) : w'.cell? ⟨b, off, none⟩ = some v :=
  (h.cell (p := ⟨b, off, none⟩) hb).trans hc

theorem ret_str_int {a b : ByteArray} {k : IntKind} {n : Int} (h : a = b) : Ending.returned (.tuple #[.string a, .int k n]) = .returned (.tuple #[.string b, .int k n]) := by rw [h]

attribute [local go_sem] bs_size bs_append

set_option maxHeartbeats 1000000 in
theorem encode_ok (t k a b : Int) (w : World) (h : chk t k a b = 0) (hg : Glob w) :
    Calls Tryd.prog 48 #[.agg #[.int .i64 t, .int .i64 k, .int .i64 a, .int .i64 b]] w fun e w' => e = .returned (.tuple #[.string (bs (form t k a b)), .int .i64 0]) ∧ Below w.heap.size w w' := by
  obtain ⟨t1, t2, k1, k2, a1, a2, b1, b2⟩ := chk_ok h
  go_enter Tryd.func48, Tryd.ntmps48
  have H := Lib.hid h
  clear h
  go_wp2_with (go_at_call 54; refine (check_any _ _ _ _ _).mono ?_; rintro e w1 ⟨rfl, hb⟩; rw [H.out]; obtain ⟨hc, hf⟩ := bcell hb)
  have hz : w.heap.size + 1 ≤ w1.heap.size := by have := hb.size; simpa using this
  have c0 : (w1.alloc (Obj.cells #[.int .i64 k, .int .i64 a, .int .i64 b] 43)).cell? ⟨w.heap.size, 0, none⟩ = some (.int .i64 t) := by
    exact cell_alloc_old (by omega) (cell_below hb (by simp) (by simp))
  have c1 : (w1.alloc (Obj.cells #[.int .i64 k, .int .i64 a, .int .i64 b] 43)).cell? ⟨w1.heap.size, 0, none⟩ = some (.int .i64 k) := by simp
  have c2 : (w1.alloc (Obj.cells #[.int .i64 k, .int .i64 a, .int .i64 b] 43)).cell? ⟨w1.heap.size, 1, none⟩ = some (.int .i64 a) := by simp
  have c3 : (w1.alloc (Obj.cells #[.int .i64 k, .int .i64 a, .int .i64 b] 43)).cell? ⟨w1.heap.size, 2, none⟩ = some (.int .i64 b) := by simp
  have hb2 : Below w.heap.size w (w1.alloc (Obj.cells #[.int .i64 k, .int .i64 a, .int .i64 b] 43)) :=
    (((Below.refl _ _).alloc (Nat.le_refl _) _).trans (hb.mono (by simp))).alloc (by omega) _
  clear hc hf hb
  generalize w1.alloc (Obj.cells #[.int .i64 k, .int .i64 a, .int .i64 b] 43) = W2 at *
  have hts : ({ data := #[80, 83, 68] } : ByteArray).extract (t.toNat - 1) t.toNat = bs [tagB t] := by
    have h := tag_slice t t1 t2; rw [show (t - 1).toNat = t.toNat - 1 by omega] at h; exact h
  have hks : ({ data := #[104, 99, 107, 109] } : ByteArray).extract (k.toNat - 1) k.toNat = bs [kindB k] := by
    have h := kind_slice k k1 k2; rw [show (k - 1).toNat = k.toNat - 1 by omega] at h; exact h
  have e44 : ({ data := #[44] } : ByteArray) = bs [44] := rfl
  have e59 : ({ data := #[59] } : ByteArray) = bs [59] := rfl
  have la := digs_len a.toNat
  have lb := digs_len b.toNat
  have lp := pay_len t k a b
  go_quiet ((go_at_call 78; exact q_same (itoa_any _ _ (by omega) (by omega))))
  have e60 : ({ data := #[60] } : ByteArray) = bs [60] := rfl
  have e62 : ({ data := #[62] } : ByteArray) = bs [62] := rfl
  have lh : (hexS (crc (pay t k a b))).length ≤ 2 := by simp [hexS]
  go_wp2_with (go_at_call 72; refine (sum_any (bs (pay t k a b)) _ (by rw [bs_size]; unfold maxLen; omega) (hg.next (belowN hb2 _))).mono ?_; rintro e w3 ⟨rfl, hb3⟩; rw [bs_list])
  go_ret2
  exact ⟨ret_str_int (by simp [form, pay]), (belowN hb2 nq).trans (hb3.mono hb2.size)⟩

set_option maxHeartbeats 400000 in
theorem encode_bad (t k a b : Int) (w : World) (h : chk t k a b ≠ 0) :
    Calls Tryd.prog 48 #[.agg #[.int .i64 t, .int .i64 k, .int .i64 a, .int .i64 b]] w fun e w' => e = .returned (.tuple #[.string (bs []), .int .i64 (chk t k a b)]) ∧ Below w.heap.size w w' := by
  have hne : (chk t k a b != 0) = true := by simpa using h
  go_enter Tryd.func48, Tryd.ntmps48
  clear h
  go_wp2_with (go_at_call 54; refine (check_any _ _ _ _ _).mono ?_; rintro e w1 ⟨rfl, hb⟩)
  go_ret2
  exact ⟨rfl, ((Below.refl _ _).alloc (Nat.le_refl _) _).trans (hb.mono (by simp))⟩

/-- What 'Encode' answers. -/
def encF (t k a b : Int) : List UInt8 × Int := if chk t k a b = 0 then (form t k a b, 0) else ([], chk t k a b)

theorem encode_any (t k a b : Int) (w : World) (hg : Glob w) :
    Calls Tryd.prog 48 #[.agg #[.int .i64 t, .int .i64 k, .int .i64 a, .int .i64 b]] w fun e w' => e = .returned (.tuple #[.string (bs (encF t k a b).1), .int .i64 (encF t k a b).2]) ∧ Below w.heap.size w w' := by
  by_cases h : chk t k a b = 0
  · simp only [encF, if_pos h]; exact encode_ok t k a b w h hg
  · simp only [encF, if_neg h]; exact encode_bad t k a b w h

theorem encF_len (t k a b : Int) : (encF t k a b).1.length ≤ 12 := by
  have := pay_len t k a b
  unfold encF; split
  · simp only [form_len]; omega
  · simp

set_option maxHeartbeats 400000 in
theorem length_any (t k a b : Int) (w : World) (hg : Glob w) :
    Calls Tryd.prog 51 #[.agg #[.int .i64 t, .int .i64 k, .int .i64 a, .int .i64 b]] w fun e w' => e = .returned (.tuple #[.int .i64 (encF t k a b).1.length, .int .i64 (encF t k a b).2]) ∧ Below w.heap.size w w' := by
  have hl := encF_len t k a b
  go_enter Tryd.func51, Tryd.ntmps51
  go_wp2_with (go_at_call 48; refine (encode_any _ _ _ _ _ (hg.next ((Below.refl _ _).alloc (Nat.le_refl _) _))).mono ?_; rintro e w1 ⟨rfl, hb⟩)
  go_ret2
  exact ⟨rfl, ((Below.refl _ _).alloc (Nat.le_refl _) _).trans (hb.mono (by simp))⟩

end Go.Proofs.YtaipifjmkbcjjaaDoor

/- Walks: the reference writes frames. -/
namespace Go.Proofs.YtaipifjmkbcjjaaDoor
open Go.RowKit

attribute [local go_sem] bs_size bs_append

theorem hex_sl (n : Int) (h0 : 0 ≤ n) (h1 : n < 16) : ({ data := #[48, 49, 50, 51, 52, 53, 54, 55, 56, 57, 97, 98, 99, 100, 101, 102] } : ByteArray).extract n.toNat (n + 1).toNat = bs [hexd n.toNat] := by
  have e : (n + 1).toNat = n.toNat + 1 := by omega
  rw [e]; exact hex_slice n.toNat (by omega)

theorem digs_lo (n : Nat) (h : n < 10) : digs n = [hexd n] := by
  have k : ∀ n : Fin 10, digs n.val = [hexd n.val] := by decide
  exact k ⟨n, h⟩
theorem digs_hi (n : Nat) (h : 10 ≤ n) (h1 : n < 100) : digs n = [hexd (n / 10), hexd (n % 10)] := by
  have k : ∀ n : Fin 90, digs (n.val + 10) = [hexd ((n.val + 10) / 10), hexd ((n.val + 10) % 10)] := by decide
  have := k ⟨n - 10, by omega⟩
  have e : n - 10 + 10 = n := by omega
  rw [e] at this; exact this

set_option maxHeartbeats 400000 in
theorem digits_lo (n : Int) (w : World) (h0 : 0 ≤ n) (h1 : n < 10) :
    Calls Tryd.prog 81 #[.int .i64 n] w fun e w' => e = .returned (.string (bs [hexd n.toNat])) ∧ w = w' := by
  have hx := Lib.hid (hex_sl n h0 (by omega))
  go_enter Tryd.func81, Tryd.ntmps81
  go_wp2
  go_ret
  exact ⟨ret_str hx.out, rfl⟩

set_option maxHeartbeats 400000 in
theorem digits_hi (n : Int) (w : World) (h0 : 10 ≤ n) (h1 : n < 100) :
    Calls Tryd.prog 81 #[.int .i64 n] w fun e w' => e = .returned (.string (bs [hexd (n.toNat / 10), hexd (n.toNat % 10)])) ∧ ∃ m, w' = w.drewN m := by
  have hx := hex_sl (n % 10) (by omega) (by omega)
  have hd1 : 0 ≤ n / 10 := by omega
  have hd2 : n / 10 < 10 := by omega
  go_enter Tryd.func81, Tryd.ntmps81
  go_wp2
  go_quiet ((go_at_call 81; exact q_same (digits_lo _ _ hd1 hd2)))
  go_wp2
  go_ret
  exact ⟨ret_str (by rw [show n.toNat / 10 = (n / 10).toNat by omega, show n.toNat % 10 = (n % 10).toNat by omega]), nq, rfl⟩

theorem digits_any (n : Int) (w : World) (h0 : 0 ≤ n) (h1 : n < 100) :
    Calls Tryd.prog 81 #[.int .i64 n] w fun e w' => e = .returned (.string (bs (digs n.toNat))) ∧ ∃ m, w' = w.drewN m := by
  by_cases h : n < 10
  · rw [digs_lo _ (by omega)]
    exact (digits_lo n w h0 h).mono fun e w' ⟨he, hw⟩ => ⟨he, 0, hw.symm⟩
  · rw [digs_hi _ (by omega) (by omega)]
    exact digits_hi n w (by omega) h1

set_option maxHeartbeats 1000000 in
theorem refEncode_ok (t k a b : Int) (w : World) (h : chk t k a b = 0) :
    Calls Tryd.prog 57 #[.agg #[.int .i64 t, .int .i64 k, .int .i64 a, .int .i64 b]] w fun e w' => e = .returned (.tuple #[.string (bs (form t k a b)), .int .i64 0]) ∧ Below w.heap.size w w' := by
  obtain ⟨t1, t2, k1, k2, a1, a2, b1, b2⟩ := chk_ok h
  go_enter Tryd.func57, Tryd.ntmps57
  have H := Lib.hid h
  clear h
  go_wp2_with (go_at_call 59; refine (refCheck_any _ _ _ _ _).mono ?_; rintro e w1 ⟨rfl, hb⟩; rw [H.out]; obtain ⟨hc, hf⟩ := bcell hb)
  have hz : w.heap.size + 1 ≤ w1.heap.size := by have := hb.size; simpa using this
  have c0 : (w1.alloc (Obj.cells #[.int .i64 k, .int .i64 a, .int .i64 b] 43)).cell? ⟨w.heap.size, 0, none⟩ = some (.int .i64 t) := by
    exact cell_alloc_old (by omega) (cell_below hb (by simp) (by simp))
  have c1 : (w1.alloc (Obj.cells #[.int .i64 k, .int .i64 a, .int .i64 b] 43)).cell? ⟨w1.heap.size, 0, none⟩ = some (.int .i64 k) := by simp
  have c2 : (w1.alloc (Obj.cells #[.int .i64 k, .int .i64 a, .int .i64 b] 43)).cell? ⟨w1.heap.size, 1, none⟩ = some (.int .i64 a) := by simp
  have c3 : (w1.alloc (Obj.cells #[.int .i64 k, .int .i64 a, .int .i64 b] 43)).cell? ⟨w1.heap.size, 2, none⟩ = some (.int .i64 b) := by simp
  have hb2 : Below w.heap.size w (w1.alloc (Obj.cells #[.int .i64 k, .int .i64 a, .int .i64 b] 43)) :=
    (((Below.refl _ _).alloc (Nat.le_refl _) _).trans (hb.mono (by simp))).alloc (by omega) _
  clear hc hf hb
  generalize w1.alloc (Obj.cells #[.int .i64 k, .int .i64 a, .int .i64 b] 43) = W2 at *
  have hts : ({ data := #[80, 83, 68] } : ByteArray).extract (t.toNat - 1) t.toNat = bs [tagB t] := by
    have h := tag_slice t t1 t2; rw [show (t - 1).toNat = t.toNat - 1 by omega] at h; exact h
  have hks : ({ data := #[104, 99, 107, 109] } : ByteArray).extract (k.toNat - 1) k.toNat = bs [kindB k] := by
    have h := kind_slice k k1 k2; rw [show (k - 1).toNat = k.toNat - 1 by omega] at h; exact h
  have e44 : ({ data := #[44] } : ByteArray) = bs [44] := rfl
  have e59 : ({ data := #[59] } : ByteArray) = bs [59] := rfl
  have la := digs_len a.toNat
  have lb := digs_len b.toNat
  have lp := pay_len t k a b
  go_quiet ((go_at_call 81; exact Calls.quiet_of (digits_any _ _ (by omega) (by omega))))
  have e60 : ({ data := #[60] } : ByteArray) = bs [60] := rfl
  have e62 : ({ data := #[62] } : ByteArray) = bs [62] := rfl
  have h0 := bn_nonneg (crc (pay t k a b))
  have h1 := bn_lt (crc (pay t k a b))
  have s1 := hex_sl (bn (crc (pay t k a b)) / 16) (by omega) (by omega)
  have s2 := hex_sl (bn (crc (pay t k a b)) % 16) (by omega) (by omega)
  have HX : Hid ([hexd (bn (crc (pay t k a b)) / 16).toNat, hexd (bn (crc (pay t k a b)) % 16).toNat] = hexS (crc (pay t k a b))) := by
    show _ = _
    have := (crc (pay t k a b)).toNat_lt
    unfold hexS bn; congr 1
  go_wp2_with (go_at_call 75; refine (refSum_any (bs (pay t k a b)) _ (by rw [bs_size]; unfold maxLen; omega)).mono ?_; rintro e w3 ⟨rfl, rfl⟩; rw [bs_list])
  generalize bn (crc (pay t k a b)) = c at *
  go_quiet (fail)
  go_wp2
  go_ret2
  refine ⟨ret_str_int ?_, belowN (belowN hb2 _) _⟩
  · rw [form, ← HX.out]; simp [pay]

set_option maxHeartbeats 400000 in
theorem refEncode_bad (t k a b : Int) (w : World) (h : chk t k a b ≠ 0) :
    Calls Tryd.prog 57 #[.agg #[.int .i64 t, .int .i64 k, .int .i64 a, .int .i64 b]] w fun e w' => e = .returned (.tuple #[.string (bs []), .int .i64 (chk t k a b)]) ∧ Below w.heap.size w w' := by
  have hne : (chk t k a b != 0) = true := by simpa using h
  go_enter Tryd.func57, Tryd.ntmps57
  clear h
  go_wp2_with (go_at_call 59; refine (refCheck_any _ _ _ _ _).mono ?_; rintro e w1 ⟨rfl, hb⟩)
  go_ret2
  exact ⟨rfl, ((Below.refl _ _).alloc (Nat.le_refl _) _).trans (hb.mono (by simp))⟩

theorem refEncode_any (t k a b : Int) (w : World) :
    Calls Tryd.prog 57 #[.agg #[.int .i64 t, .int .i64 k, .int .i64 a, .int .i64 b]] w fun e w' => e = .returned (.tuple #[.string (bs (encF t k a b).1), .int .i64 (encF t k a b).2]) ∧ Below w.heap.size w w' := by
  by_cases h : chk t k a b = 0
  · simp only [encF, if_pos h]; exact refEncode_ok t k a b w h
  · simp only [encF, if_neg h]; exact refEncode_bad t k a b w h

set_option maxHeartbeats 400000 in
theorem refLength_any (t k a b : Int) (w : World) :
    Calls Tryd.prog 58 #[.agg #[.int .i64 t, .int .i64 k, .int .i64 a, .int .i64 b]] w fun e w' => e = .returned (.tuple #[.int .i64 (encF t k a b).1.length, .int .i64 (encF t k a b).2]) ∧ Below w.heap.size w w' := by
  have hl := encF_len t k a b
  go_enter Tryd.func58, Tryd.ntmps58
  go_wp2_with (go_at_call 57; refine (refEncode_any _ _ _ _ _).mono ?_; rintro e w1 ⟨rfl, hb⟩)
  go_ret2
  exact ⟨rfl, ((Below.refl _ _).alloc (Nat.le_refl _) _).trans (hb.mono (by simp))⟩

end Go.Proofs.YtaipifjmkbcjjaaDoor

/- Walks: the readers of forms. -/
namespace Go.Proofs.YtaipifjmkbcjjaaDoor
open Go.RowKit

/-- Where a number first stands among bytes, counted from i on; -1 if nowhere. -/
def ixI : List UInt8 → Int → Int → Int
  | [], _, _ => -1
  | c :: l, n, i => if bn c = n then i else ixI l n (i + 1)

theorem ixI_drop (s : ByteArray) (n : Int) (k : Nat) (h : k < s.size) :
    ixI (s.data.toList.drop k) n k = if bn s[k] = n then (k : Int) else ixI (s.data.toList.drop (k + 1)) n (k + 1) := by
  have h' : k < s.data.toList.length := by simpa using h
  rw [List.drop_eq_getElem_cons h']; rfl

set_option maxHeartbeats 400000 in
theorem runeAt_any (s : ByteArray) (n : Int) (w : World) (hs : s.size ≤ maxLen) (ha : ∀ k (h : k < s.size), (s[k]'h).toNat < 128) :
    Calls Tryd.prog 84 #[.string s, .int .i32 n] w fun e w' => e = .returned (.int .i64 (ixI s.data.toList n 0)) ∧ Below w.heap.size w w' := by
  unfold maxLen at hs
  go_enter Tryd.func84, Tryd.ntmps84
  go_wp2
  go_loopw [5, 6] (fun a b wr => ∃ k : Nat, k ≤ s.size ∧ wr = w.iter s k ∧ ixI (s.data.toList.drop k) n k = ixI s.data.toList n 0) (fun _ _ wr => s.size - wr.iterPos w.heap.size)
  case atStart => exact ⟨0, by omega, rfl, by simp⟩
  case round =>
    obtain ⟨k, hk, rfl, hix⟩ := hrel
    have Hix := Lib.hid hix
    clear hix
    by_cases hlt : k < s.size
    · have hn := run_next_ascii (P := Tryd.prog) w s k
      have hd := Lib.hid (ixI_drop s n k hlt)
      go_wp2
      · rename_i hq
        have hq : (bn s[k] == n) = true := hq
        go_ret
        exact ⟨ret_int (by rw [← Hix.out, hd.out, if_pos (by simpa using hq)]), (Below.refl _ _).alloc (Nat.le_refl _) _⟩
      · rename_i hq
        have hq : (bn s[k] == n) = false := hq
        refine ⟨⟨k + 1, by omega, rfl, by rw [← Hix.out, hd.out, if_neg (by simpa using hq)]; rfl⟩, ?_⟩
        rw [World.iterPos_iter, World.iterPos_iter]; omega
    · have hn := run_next_end (P := Tryd.prog) w s k
      go_wp2
      go_ret
      exact ⟨ret_int (by rw [← Hix.out, List.drop_of_length_le (by simp; omega)]; rfl), (Below.refl _ _).alloc (Nat.le_refl _) _⟩

end Go.Proofs.YtaipifjmkbcjjaaDoor

/- Walks: the readers of forms. -/
namespace Go.Proofs.YtaipifjmkbcjjaaDoor
open Go.RowKit Go.Sort

/-- A reader of three cells in block b. -/
def Rd (T : TypeId) (b : Nat) (s : ByteArray) (p : Nat) (ok : Bool) (w : World) : Prop := w.heap[b]? = some (.cells #[.string s, .int .i64 p, .bool ok] T (0, 0))

theorem Rd.c0 {T b s p ok w} (h : Rd T b s p ok w) : w.cell? ⟨b, 0, none⟩ = some (.string s) := by unfold Rd at h; simp [World.cell?, h]
theorem Rd.c1 {T b s p ok w} (h : Rd T b s p ok w) : w.cell? ⟨b, 1, none⟩ = some (.int .i64 p) := by unfold Rd at h; simp [World.cell?, h]
theorem Rd.c2 {T b s p ok w} (h : Rd T b s p ok w) : w.cell? ⟨b, 2, none⟩ = some (.bool ok) := by unfold Rd at h; simp [World.cell?, h]
theorem Rd.fr {T b s p ok w} (h : Rd T b s p ok w) (o : Nat) : w.frozen? ⟨b, o, none⟩ = false := by unfold Rd at h; simp [World.frozen?, h]
theorem Rd.lt {T b s p ok w} (h : Rd T b s p ok w) : b < w.heap.size := by
  unfold Rd at h
  rcases Nat.lt_or_ge b w.heap.size with h' | h'
  · exact h'
  · simp [Array.getElem?_eq_none h'] at h
theorem Rd.below {T b s p ok w w'} {B : Nat} (h : Rd T b s p ok w) (hb : Below B w w') (hB : b < B) : Rd T b s p ok w' := (hb.block b hB).trans h
theorem Rd.setOk {T b s p ok w} (h : Rd T b s p ok w) (v : Bool) : Rd T b s p v (w.setCell ⟨b, 2, none⟩ (.bool v)) := by
  unfold Rd at *
  simp [World.setCell, Array.getElem?_modify, h]
theorem Rd.setP {T b s p ok w} (h : Rd T b s p ok w) (q : Nat) : Rd T b s q ok (w.setCell ⟨b, 1, none⟩ (.int .i64 q)) := by
  unfold Rd at *
  simp [World.setCell, Array.getElem?_modify, h]
theorem grown_set {w : World} {b o : Nat} {v : Value} : w.grownBy (w.setCell ⟨b, o, none⟩ v) (some b) :=
  ⟨rfl, rfl, rfl, by simp [World.setCell], fun k _ hk => Below.heap_setCell _ _ _ _ (by intro h; exact hk (by rw [h]))⟩
theorem grown_trans {a b c : World} {r : Option Nat} (h : a.grownBy b r) (k : b.grownBy c r) : a.grownBy c r :=
  ⟨k.os.trans h.os, k.tape.trans h.tape, k.output.trans h.output, Nat.le_trans h.size k.size, fun i hi hr => (k.block i (Nat.lt_of_lt_of_le hi h.size) hr).trans (h.block i hi hr)⟩
theorem grown_below {w w' : World} {r : Option Nat} (h : Below w.heap.size w w') : w.grownBy w' r :=
  ⟨h.os, h.tape, h.output, h.size, fun k hk _ => h.block k hk⟩
theorem grown_draw {w : World} {r : Option Nat} (n : Nat) : w.grownBy (w.drewN n) r := ⟨rfl, rfl, rfl, Nat.le_refl _, fun _ _ _ => rfl⟩

set_option maxHeartbeats 400000 in
theorem rune_no (b : Nat) (s of : ByteArray) (p : Nat) (ok : Bool) (w : World) (_hs : s.size ≤ maxLen) (hR : Rd 104 b s p ok w) (h : ok = false ∨ s.size ≤ p) :
    Calls Tryd.prog 70 #[.pointer (some ⟨b, 0, none⟩), .string of] w fun e w' => e = .returned (.int .i64 0) ∧ Rd 104 b s p false w' ∧ w.grownBy w' (some b) := by
  unfold maxLen at _hs
  have c0 := hR.c0
  have c1 := hR.c1
  have c2 := hR.c2
  have f2 := hR.fr 2
  cases ok with
  | false =>
    go_enter Tryd.func70, Tryd.ntmps70
    go_wp2
    go_quiet (fail)
    go_wp2
    go_ret
    exact ⟨rfl, Rd.setOk (w := w.drewN nq) (by exact hR) false, grown_trans (grown_draw nq) grown_set⟩
  | true =>
    have h : s.size ≤ p := by simpa using h
    go_enter Tryd.func70, Tryd.ntmps70
    go_wp2
    go_quiet (fail)
    go_wp2
    go_ret
    exact ⟨rfl, Rd.setOk (w := w.drewN nq) (by exact hR) false, grown_trans (grown_draw nq) grown_set⟩

set_option maxHeartbeats 400000 in

set_option maxHeartbeats 400000 in
theorem rune_at (b : Nat) (s of : ByteArray) (p : Nat) (c : UInt8) (w : World) (hs : s.size ≤ maxLen) (ho : of.size ≤ maxLen) (ha : ∀ k (h : k < of.size), (of[k]'h).toNat < 128) (hR : Rd 104 b s p true w) (hp : p < s.size) (hc : s[p] = c)
    (r : Int) (p' : Nat) (ok' : Bool) (hres : (r, p', ok') = if ixI of.data.toList (bn c) 0 < 0 then (0, p, false) else (ixI of.data.toList (bn c) 0, p + 1, true)) :
    Calls Tryd.prog 70 #[.pointer (some ⟨b, 0, none⟩), .string of] w fun e w' => e = .returned (.int .i64 r) ∧ Rd 104 b s p' ok' w' ∧ w.grownBy w' (some b) := by
  have Hres := Lib.hid hres
  clear hres
  have c0 := hR.c0
  have c1 := hR.c1
  have c2 := hR.c2
  have Hrun : Hid (∀ w, Calls Tryd.prog 84 #[.string of, .int .i32 (bn c)] w fun e w' => e = .returned (.int .i64 (ixI of.data.toList (bn c) 0)) ∧ Below w.heap.size w w') := fun w => runeAt_any of (bn c) w ho ha
  generalize ixI of.data.toList (bn c) 0 = ix at *
  unfold maxLen at hs
  have HC := Lib.hid hc
  clear hc
  go_enter Tryd.func70, Tryd.ntmps70
  go_wp2
  go_quiet (fail)
  go_wp2
  have hR' : Rd 104 b s p true (w.drewN nq) := hR
  have hgr : w.grownBy (w.drewN nq) (some b) := grown_draw nq
  clear c0 c1 c2
  generalize w.drewN nq = W at *
  have k0 := cell_regrown hR'.c0
  have k1 := cell_regrown hR'.c1
  have cR : ∀ d os, Calls Tryd.prog 84 #[.string of, .int .i32 (bn c)] (grow (redrawn W d) os) fun e w'' => e = .returned (.int .i64 ix) ∧ ∃ p : Regrown, w'' = grow (redrawn W p.d) p.os :=
    fun d os => Calls.regrown_of (Hrun.out _)
  have hc := HC.out
  have hwr : IntKind.i32.wrap (c.toNat : Int) = bn c := by
    have := c.toNat_lt
    rw [IntKind.wrap_i32]; unfold bn; omega
  refine wp_region_quiet_below (by kernel_rfl) (by kernel_rfl) ?_
  repeat (quiet_step (exact cR _ _))
  clear hc hwr
  refine wpQuiet_nil ?_
  intro _ hw'
  obtain ⟨⟨dq, osq⟩, hw''⟩ := hw'
  subst hw''
  have hR2 : Rd 104 b s p true (grow (redrawn W dq) osq) := hR'.below (below_regrown W dq osq) hR'.lt
  have hgr2 : w.grownBy (grow (redrawn W dq) osq) (some b) := grown_trans hgr (grown_below (below_regrown W dq osq))
  clear k0 k1 cR hR' hgr
  generalize grow (redrawn W dq) osq = W2 at *
  have c1 := hR2.c1
  have f1 := hR2.fr 1
  have f2 := hR2.fr 2
  have c2 := hR2.c2
  have hlt := hR2.lt
  by_cases hneg : ix < 0
  · go_wp2
    go_ret
    have hres := Hres.out
    rw [if_pos hneg] at hres
    simp only [Prod.mk.injEq] at hres
    obtain ⟨rfl, rfl, rfl⟩ := hres
    exact ⟨rfl, hR2.setOk false, grown_trans hgr2 grown_set⟩
  · go_wp2
    go_ret
    have hres := Hres.out
    rw [if_neg (by omega)] at hres
    simp only [Prod.mk.injEq] at hres
    obtain ⟨rfl, rfl, rfl⟩ := hres
    exact ⟨rfl, hR2.setP (p + 1), grown_trans hgr2 grown_set⟩


/-- Reading one of some letters: its number, where it has come, whether all is well. -/
def rdS (s of : List UInt8) (p : Nat) (ok : Bool) : Int × Nat × Bool :=
  if ok = false ∨ s.length ≤ p then (0, p, false) else if ixI of (bn (s.getD p 0)) 0 < 0 then (0, p, false) else (ixI of (bn (s.getD p 0)) 0, p + 1, true)

theorem rune_any (b : Nat) (s of : ByteArray) (p : Nat) (ok : Bool) (w : World) (hs : s.size ≤ maxLen) (ho : of.size ≤ maxLen) (ha : ∀ k (h : k < of.size), (of[k]'h).toNat < 128) (hR : Rd 104 b s p ok w) :
    Calls Tryd.prog 70 #[.pointer (some ⟨b, 0, none⟩), .string of] w fun e w' => e = .returned (.int .i64 (rdS s.data.toList of.data.toList p ok).1) ∧
      Rd 104 b s (rdS s.data.toList of.data.toList p ok).2.1 (rdS s.data.toList of.data.toList p ok).2.2 w' ∧ w.grownBy w' (some b) := by
  have hl : s.data.toList.length = s.size := by simp
  by_cases h : ok = false ∨ s.size ≤ p
  · simp only [rdS, hl, if_pos h]
    exact rune_no b s of p ok w hs hR h
  · have h' := h
    simp only [not_or, Bool.not_eq_false, Nat.not_le] at h'
    obtain ⟨rfl, hp⟩ := h'
    refine rune_at b s of p (s[p]'hp) w hs ho ha hR hp rfl _ _ _ ?_
    rw [← byte_at s p hp]
    simp only [rdS, hl, if_neg h]

end Go.Proofs.YtaipifjmkbcjjaaDoor

/- Walks: ports, events. -/
namespace Go.Proofs.YtaipifjmkbcjjaaDoor
open Go.RowKit Go.Sort

theorem bool_ret {a b : Bool} (h : a = b) : Ending.returned (.bool a) = .returned (.bool b) := by rw [h]

/-- A configuration's cells: what matters of it, and the rest. -/
abbrev cfgA (f c : Int) (x : Nat → Value) : Array Value :=
  #[.int .i64 f, x 1, .int .i64 c, x 3, x 4, x 5, x 6, x 7, x 8, x 9, x 10, x 11, x 12, x 13, x 14, x 15, x 16, x 17, x 18, x 19, x 20, x 21, x 22, x 23, x 24]

theorem tmod_bound (n m : Int) (hm : 1 ≤ m) : -m < n.tmod m ∧ n.tmod m < m := by
  have h1 := Int.tmod_lt_of_pos n (show 0 < m by omega)
  have h2 : -m < n.tmod m := by
    have := Int.tmod_lt_of_pos (-n) (show 0 < m by omega)
    rw [Int.neg_tmod] at this; omega
  exact ⟨h2, h1⟩
theorem tmod_mod (n m : Int) (hm : 1 ≤ m) : n % m = if n.tmod m < 0 then n.tmod m + m else n.tmod m := by
  obtain ⟨h2, h1⟩ := tmod_bound n m hm
  have e : n % m = n.tmod m % m := by
    have := Int.mul_tdiv_add_tmod n m
    conv => lhs; rw [← this]
    rw [Int.mul_add_emod_self_left]
  rw [e]
  split
  · rw [← Int.add_emod_right, Int.emod_eq_of_lt (by omega) (by omega)]
  · exact Int.emod_eq_of_lt (by omega) h1

theorem mod_any (n m : Int) (w : World) (hm : 1 ≤ m) (hm2 : m ≤ 4611686018427387904) :
    Calls Tryd.prog 18 #[.int .i64 n, .int .i64 m] w fun e w' => e = .returned (.int .i64 (n % m)) ∧ w = w' := by
  obtain ⟨hb1, hb2⟩ := tmod_bound n m hm
  have hmod := Lib.hid (tmod_mod n m hm)
  by_cases h : n.tmod m < 0
  · go_enter Tryd.func18, Tryd.ntmps18
    go_wp2
    go_ret
    refine ⟨ret_int ?_, rfl⟩
    rw [hmod.out, if_pos h]
  · go_enter Tryd.func18, Tryd.ntmps18
    go_wp2
    go_ret
    exact ⟨ret_int (by rw [hmod.out, if_neg (by omega)]), rfl⟩

theorem is_any (p : Int) (w : World) :
    Calls Tryd.prog 61 #[.int .i64 p] w fun e w' => e = .returned (.bool (decide (0 ≤ p ∧ p < 24))) ∧ w = w' := by
  go_enter Tryd.func61, Tryd.ntmps61
  go_wp2
  all_goals
    go_ret
    refine ⟨bool_ret ?_, rfl⟩
    simp
    try omega

/-- The domain of a port. -/
theorem domain_ok (p : Int) (w : World) (h0 : 0 ≤ p) (h1 : p < 24) :
    Calls Tryd.prog 19 #[.int .i64 p] w fun e w' => e = .returned (.tuple #[.int .i64 (1 + p / 8), .int .i64 0]) ∧ w = w' := by
  have hd : decide (0 ≤ p ∧ p < 24) = true := by simp; omega
  go_enter Tryd.func19, Tryd.ntmps19
  go_wp2_with (go_at_call 61; refine (is_any _ _).mono ?_; rintro e w' ⟨rfl, rfl⟩)
  go_ret2
  exact ⟨rfl, rfl⟩
theorem domain_bad (p : Int) (w : World) (h : ¬ (0 ≤ p ∧ p < 24)) :
    Calls Tryd.prog 19 #[.int .i64 p] w fun e w' => e = .returned (.tuple #[.int .i64 0, .int .i64 2]) ∧ w = w' := by
  have hd : decide (0 ≤ p ∧ p < 24) = false := by simpa using h
  clear h
  go_enter Tryd.func19, Tryd.ntmps19
  go_wp2_with (go_at_call 61; refine (is_any _ _).mono ?_; rintro e w' ⟨rfl, rfl⟩)
  go_ret2
  exact ⟨rfl, rfl⟩

/-- From low to high. -/
def inB (n l h : Int) : Bool := decide (l ≤ n) && decide (n ≤ h)
theorem in_any (n l h : Int) (w : World) :
    Calls Tryd.prog 83 #[.int .i64 n, .int .i64 l, .int .i64 h] w fun e w' => e = .returned (.bool (inB n l h)) ∧ w = w' := by
  go_enter Tryd.func83, Tryd.ntmps83
  go_wp2
  all_goals
    go_ret
    refine ⟨bool_ret ?_, rfl⟩
    simp [inB]
    try omega

def vErr (f c : Int) : Int := if f < 2 ∨ 64 < f ∨ c < 1 ∨ 8 < c then 2 else 0

set_option maxHeartbeats 400000 in
theorem valid_any (f c : Int) (x : Nat → Value) (w : World) :
    Calls Tryd.prog 62 #[.agg (cfgA f c x)] w fun e w' => e = .returned (.int .i64 (vErr f c)) ∧ Below w.heap.size w w' := by
  go_enter Tryd.func62, Tryd.ntmps62
  go_wp2
  all_goals
    go_ret
    refine ⟨ret_int ?_, (Below.refl _ _).alloc (Nat.le_refl _) _⟩
    unfold vErr
    split <;> omega


/-- What an event is, as a value of its own type. -/
def evV (k a b : Int) : Value :=
  if k = 1 then .iface 127 (.agg #[.int .i64 a, .int .i64 b]) else if k = 2 then .iface 129 (.agg #[.int .i64 a, .int .i64 b])
  else if k = 3 then .iface 131 (.agg #[.int .i64 a, .int .i64 b]) else if k = 4 then .iface 133 (.agg #[.int .i64 a, .int .i64 b]) else .nilIface

theorem below_alloc (w : World) (o : Obj) : Below w.heap.size w (w.alloc o) := (Below.refl _ _).alloc (Nat.le_refl _) _

set_option maxHeartbeats 400000 in
theorem event_any (k a b : Int) (v : Value) (w : World) (hv : evV k a b = v) :
    Calls Tryd.prog 82 #[.agg #[.int .i64 k, .int .i64 a, .int .i64 b]] w fun e w' => e = .returned v ∧ Below w.heap.size w w' := by
  have HV := Lib.hid hv
  clear hv
  by_cases h1 : k = 1
  · subst h1
    go_enter Tryd.func82, Tryd.ntmps82
    go_wp2
    go_ret
    exact ⟨by rw [← HV.out]; rfl, below_alloc _ _⟩
  · have e1 : (k == 1) = false := by simpa using h1
    by_cases h2 : k = 2
    · subst h2
      go_enter Tryd.func82, Tryd.ntmps82
      go_wp2
      go_ret
      exact ⟨by rw [← HV.out]; rfl, below_alloc _ _⟩
    · have e2 : (k == 2) = false := by simpa using h2
      by_cases h3 : k = 3
      · subst h3
        go_enter Tryd.func82, Tryd.ntmps82
        go_wp2
        go_ret
        exact ⟨by rw [← HV.out]; rfl, below_alloc _ _⟩
      · have e3 : (k == 3) = false := by simpa using h3
        by_cases h4 : k = 4
        · subst h4
          go_enter Tryd.func82, Tryd.ntmps82
          go_wp2
          go_ret
          exact ⟨by rw [← HV.out]; rfl, below_alloc _ _⟩
        · have e4 : (k == 4) = false := by simpa using h4
          have HN : Hid (v = .nilIface) := by show v = _; rw [← HV.out, evV, if_neg h1, if_neg h2, if_neg h3, if_neg h4]
          go_enter Tryd.func82, Tryd.ntmps82
          go_wp2
          go_ret
          exact ⟨by rw [HN.out]; rfl, below_alloc _ _⟩

/-- Whether an event fits a configuration. -/
def fitsB (f c k a b : Int) : Bool :=
  if k = 1 then inB a 0 (f - 1) && inB b 1 2 else if k = 2 then inB a 1 c && inB b 0 (f - 1)
  else if k = 3 then inB a 1 99 && b == 0 else if k = 4 then inB a 1 c && inB b 0 3 else false

theorem ta127_127 (v : Value) (w : World) : (Instr.typeAssert (.iface 127 v) 20 127 true).run Tryd.prog w = .ok (.tuple #[v, .bool true]) w := by kernel_rfl
theorem ta127_129 (v : Value) (w : World) : (Instr.typeAssert (.iface 129 v) 20 127 true).run Tryd.prog w = .ok (.tuple #[.agg #[.int .i64 0, .int .i64 0], .bool false]) w := by kernel_rfl
theorem ta127_131 (v : Value) (w : World) : (Instr.typeAssert (.iface 131 v) 20 127 true).run Tryd.prog w = .ok (.tuple #[.agg #[.int .i64 0, .int .i64 0], .bool false]) w := by kernel_rfl
theorem ta127_133 (v : Value) (w : World) : (Instr.typeAssert (.iface 133 v) 20 127 true).run Tryd.prog w = .ok (.tuple #[.agg #[.int .i64 0, .int .i64 0], .bool false]) w := by kernel_rfl
theorem ta127_0 (w : World) : (Instr.typeAssert .nilIface 20 127 true).run Tryd.prog w = .ok (.tuple #[.agg #[.int .i64 0, .int .i64 0], .bool false]) w := by kernel_rfl
theorem ta129_129 (v : Value) (w : World) : (Instr.typeAssert (.iface 129 v) 20 129 true).run Tryd.prog w = .ok (.tuple #[v, .bool true]) w := by kernel_rfl
theorem ta129_131 (v : Value) (w : World) : (Instr.typeAssert (.iface 131 v) 20 129 true).run Tryd.prog w = .ok (.tuple #[.agg #[.int .i64 0, .int .i64 0], .bool false]) w := by kernel_rfl
theorem ta129_133 (v : Value) (w : World) : (Instr.typeAssert (.iface 133 v) 20 129 true).run Tryd.prog w = .ok (.tuple #[.agg #[.int .i64 0, .int .i64 0], .bool false]) w := by kernel_rfl
theorem ta129_0 (w : World) : (Instr.typeAssert .nilIface 20 129 true).run Tryd.prog w = .ok (.tuple #[.agg #[.int .i64 0, .int .i64 0], .bool false]) w := by kernel_rfl
theorem ta131_131 (v : Value) (w : World) : (Instr.typeAssert (.iface 131 v) 20 131 true).run Tryd.prog w = .ok (.tuple #[v, .bool true]) w := by kernel_rfl
theorem ta131_133 (v : Value) (w : World) : (Instr.typeAssert (.iface 133 v) 20 131 true).run Tryd.prog w = .ok (.tuple #[.agg #[.int .i64 0, .int .i64 0], .bool false]) w := by kernel_rfl
theorem ta131_0 (w : World) : (Instr.typeAssert .nilIface 20 131 true).run Tryd.prog w = .ok (.tuple #[.agg #[.int .i64 0, .int .i64 0], .bool false]) w := by kernel_rfl
theorem ta133_133 (v : Value) (w : World) : (Instr.typeAssert (.iface 133 v) 20 133 true).run Tryd.prog w = .ok (.tuple #[v, .bool true]) w := by kernel_rfl
theorem ta133_0 (w : World) : (Instr.typeAssert .nilIface 20 133 true).run Tryd.prog w = .ok (.tuple #[.agg #[.int .i64 0, .int .i64 0], .bool false]) w := by kernel_rfl
attribute [local go_sem] ta127_127 ta127_129 ta127_131 ta127_133 ta127_0 ta129_129 ta129_131 ta129_133 ta129_0 ta131_131 ta131_133 ta131_0 ta133_133 ta133_0

set_option maxRecDepth 100000 in
set_option maxHeartbeats 400000 in
theorem fits_1 (f c a b : Int) (x : Nat → Value) (w : World) (hf : 2 ≤ f) (hf2 : f ≤ 64) :
    Calls Tryd.prog 63 #[.agg (cfgA f c x), .agg #[.int .i64 1, .int .i64 a, .int .i64 b]] w fun e w' => e = .returned (.bool (fitsB f c 1 a b)) ∧ Below w.heap.size w w' := by
  have HB : Hid (fitsB f c 1 a b = (inB a 0 (f - 1) && inB b 1 2)) := rfl
  cases hi : inB a 0 (f - 1)
  all_goals
    rw [hi] at HB
    go_enter Tryd.func63, Tryd.ntmps63
    go_wp2_with fail
    refine (event_any 1 a b (.iface 127 (.agg #[.int .i64 a, .int .i64 b])) _ rfl).mono ?_
    rintro e w1 ⟨rfl, hb⟩
    have hz : w.heap.size + 2 ≤ w1.heap.size := by have := hb.size; simpa using this
    have hne : ¬ w.heap.size = w1.heap.size := by omega
    have c0 : w1.cell? ⟨w.heap.size, 0, none⟩ = some (.int .i64 f) := cell_below hb (by simp only [World.size_alloc]; omega) (cell_alloc_old (by simp) (by simp))
    have c2 : w1.cell? ⟨w.heap.size, 2, none⟩ = some (.int .i64 c) := cell_below hb (by simp only [World.size_alloc]; omega) (cell_alloc_old (by simp) (by simp))
    have HW := Lib.hid ((((Below.refl _ _).alloc (Nat.le_refl _) (.cells (cfgA f c x) 40)).alloc (by simp) (.cells #[.int .i64 1, .int .i64 a, .int .i64 b] 43)).trans (hb.mono (by simp; omega)))
    have c0' : (w1.alloc (.cells #[.int .i64 a, .int .i64 b] 127)).cell? ⟨w.heap.size, 0, none⟩ = some (.int .i64 f) := cell_alloc_old (by omega) c0
    have c2' : (w1.alloc (.cells #[.int .i64 a, .int .i64 b] 127)).cell? ⟨w.heap.size, 2, none⟩ = some (.int .i64 c) := cell_alloc_old (by omega) c2
    clear c0 c2
    clear hb
    go_wp2_with (go_at_call 83; refine (in_any _ _ _ _).mono ?_; rintro e w' ⟨rfl, rfl⟩)
    go_ret
    exact ⟨by rw [HB.out]; rfl, HW.out.alloc HW.out.size _⟩

set_option maxRecDepth 100000 in
set_option maxHeartbeats 400000 in
theorem fits_2 (f c a b : Int) (x : Nat → Value) (w : World) (hf : 2 ≤ f) (hf2 : f ≤ 64) :
    Calls Tryd.prog 63 #[.agg (cfgA f c x), .agg #[.int .i64 2, .int .i64 a, .int .i64 b]] w fun e w' => e = .returned (.bool (fitsB f c 2 a b)) ∧ Below w.heap.size w w' := by
  have HB : Hid (fitsB f c 2 a b = (inB a 1 c && inB b 0 (f - 1))) := rfl
  cases hi : inB a 1 c
  all_goals
    rw [hi] at HB
    go_enter Tryd.func63, Tryd.ntmps63
    go_wp2_with fail
    refine (event_any 2 a b (.iface 129 (.agg #[.int .i64 a, .int .i64 b])) _ rfl).mono ?_
    rintro e w1 ⟨rfl, hb⟩
    have hz : w.heap.size + 2 ≤ w1.heap.size := by have := hb.size; simpa using this
    have hne : ¬ w.heap.size = w1.heap.size := by omega
    have c0 : w1.cell? ⟨w.heap.size, 0, none⟩ = some (.int .i64 f) := cell_below hb (by simp only [World.size_alloc]; omega) (cell_alloc_old (by simp) (by simp))
    have c2 : w1.cell? ⟨w.heap.size, 2, none⟩ = some (.int .i64 c) := cell_below hb (by simp only [World.size_alloc]; omega) (cell_alloc_old (by simp) (by simp))
    have HW := Lib.hid ((((Below.refl _ _).alloc (Nat.le_refl _) (.cells (cfgA f c x) 40)).alloc (by simp) (.cells #[.int .i64 2, .int .i64 a, .int .i64 b] 43)).trans (hb.mono (by simp; omega)))
    have c0' : (w1.alloc (.cells #[.int .i64 a, .int .i64 b] 129)).cell? ⟨w.heap.size, 0, none⟩ = some (.int .i64 f) := cell_alloc_old (by omega) c0
    have c2' : (w1.alloc (.cells #[.int .i64 a, .int .i64 b] 129)).cell? ⟨w.heap.size, 2, none⟩ = some (.int .i64 c) := cell_alloc_old (by omega) c2
    clear c0 c2
    clear hb
    go_wp2_with (go_at_call 83; refine (in_any _ _ _ _).mono ?_; rintro e w' ⟨rfl, rfl⟩)
    go_ret
    exact ⟨by rw [HB.out]; rfl, HW.out.alloc HW.out.size _⟩

set_option maxRecDepth 100000 in
set_option maxHeartbeats 400000 in
theorem fits_3 (f c a b : Int) (x : Nat → Value) (w : World) :
    Calls Tryd.prog 63 #[.agg (cfgA f c x), .agg #[.int .i64 3, .int .i64 a, .int .i64 b]] w fun e w' => e = .returned (.bool (fitsB f c 3 a b)) ∧ Below w.heap.size w w' := by
  have HB : Hid (fitsB f c 3 a b = (inB a 1 99 && b == 0)) := rfl
  cases hi : inB a 1 99
  all_goals
    rw [hi] at HB
    go_enter Tryd.func63, Tryd.ntmps63
    go_wp2_with fail
    refine (event_any 3 a b (.iface 131 (.agg #[.int .i64 a, .int .i64 b])) _ rfl).mono ?_
    rintro e w1 ⟨rfl, hb⟩
    have hz : w.heap.size + 2 ≤ w1.heap.size := by have := hb.size; simpa using this
    have hne : ¬ w.heap.size = w1.heap.size := by omega
    have c0 : w1.cell? ⟨w.heap.size, 0, none⟩ = some (.int .i64 f) := cell_below hb (by simp only [World.size_alloc]; omega) (cell_alloc_old (by simp) (by simp))
    have c2 : w1.cell? ⟨w.heap.size, 2, none⟩ = some (.int .i64 c) := cell_below hb (by simp only [World.size_alloc]; omega) (cell_alloc_old (by simp) (by simp))
    have HW := Lib.hid ((((Below.refl _ _).alloc (Nat.le_refl _) (.cells (cfgA f c x) 40)).alloc (by simp) (.cells #[.int .i64 3, .int .i64 a, .int .i64 b] 43)).trans (hb.mono (by simp; omega)))
    have c0' : (w1.alloc (.cells #[.int .i64 a, .int .i64 b] 131)).cell? ⟨w.heap.size, 0, none⟩ = some (.int .i64 f) := cell_alloc_old (by omega) c0
    have c2' : (w1.alloc (.cells #[.int .i64 a, .int .i64 b] 131)).cell? ⟨w.heap.size, 2, none⟩ = some (.int .i64 c) := cell_alloc_old (by omega) c2
    clear c0 c2
    clear hb
    go_wp2_with (go_at_call 83; refine (in_any _ _ _ _).mono ?_; rintro e w' ⟨rfl, rfl⟩)
    go_ret
    exact ⟨by rw [HB.out]; rfl, HW.out.alloc HW.out.size _⟩

set_option maxRecDepth 100000 in
set_option maxHeartbeats 400000 in
theorem fits_4 (f c a b : Int) (x : Nat → Value) (w : World) :
    Calls Tryd.prog 63 #[.agg (cfgA f c x), .agg #[.int .i64 4, .int .i64 a, .int .i64 b]] w fun e w' => e = .returned (.bool (fitsB f c 4 a b)) ∧ Below w.heap.size w w' := by
  have HB : Hid (fitsB f c 4 a b = (inB a 1 c && inB b 0 3)) := rfl
  cases hi : inB a 1 c
  all_goals
    rw [hi] at HB
    go_enter Tryd.func63, Tryd.ntmps63
    go_wp2_with fail
    refine (event_any 4 a b (.iface 133 (.agg #[.int .i64 a, .int .i64 b])) _ rfl).mono ?_
    rintro e w1 ⟨rfl, hb⟩
    have hz : w.heap.size + 2 ≤ w1.heap.size := by have := hb.size; simpa using this
    have hne : ¬ w.heap.size = w1.heap.size := by omega
    have c0 : w1.cell? ⟨w.heap.size, 0, none⟩ = some (.int .i64 f) := cell_below hb (by simp only [World.size_alloc]; omega) (cell_alloc_old (by simp) (by simp))
    have c2 : w1.cell? ⟨w.heap.size, 2, none⟩ = some (.int .i64 c) := cell_below hb (by simp only [World.size_alloc]; omega) (cell_alloc_old (by simp) (by simp))
    have HW := Lib.hid ((((Below.refl _ _).alloc (Nat.le_refl _) (.cells (cfgA f c x) 40)).alloc (by simp) (.cells #[.int .i64 4, .int .i64 a, .int .i64 b] 43)).trans (hb.mono (by simp; omega)))
    have c0' : (w1.alloc (.cells #[.int .i64 a, .int .i64 b] 133)).cell? ⟨w.heap.size, 0, none⟩ = some (.int .i64 f) := cell_alloc_old (by omega) c0
    have c2' : (w1.alloc (.cells #[.int .i64 a, .int .i64 b] 133)).cell? ⟨w.heap.size, 2, none⟩ = some (.int .i64 c) := cell_alloc_old (by omega) c2
    clear c0 c2
    clear hb
    go_wp2_with (go_at_call 83; refine (in_any _ _ _ _).mono ?_; rintro e w' ⟨rfl, rfl⟩)
    go_ret
    exact ⟨by rw [HB.out]; rfl, HW.out.alloc HW.out.size _⟩

set_option maxRecDepth 100000 in
set_option maxHeartbeats 400000 in
theorem fits_0 (f c k a b : Int) (x : Nat → Value) (w : World) (h1 : ¬ k = 1) (h2 : ¬ k = 2) (h3 : ¬ k = 3) (h4 : ¬ k = 4) :
    Calls Tryd.prog 63 #[.agg (cfgA f c x), .agg #[.int .i64 k, .int .i64 a, .int .i64 b]] w fun e w' => e = .returned (.bool (fitsB f c k a b)) ∧ Below w.heap.size w w' := by
  have HB : Hid (fitsB f c k a b = false) := by show _ = _; simp [fitsB, h1, h2, h3, h4]
  have HE : Hid (evV k a b = .nilIface) := by show _ = _; simp [evV, h1, h2, h3, h4]
  go_enter Tryd.func63, Tryd.ntmps63
  go_wp2_with fail
  refine (event_any k a b .nilIface _ HE.out).mono ?_
  rintro e w1 ⟨rfl, hb⟩
  have HW := Lib.hid ((((Below.refl _ _).alloc (Nat.le_refl _) (.cells (cfgA f c x) 40)).alloc (by simp) (.cells #[.int .i64 k, .int .i64 a, .int .i64 b] 43)).trans (hb.mono (by simp; omega)))
  clear hb
  go_wp2
  go_ret
  exact ⟨by rw [HB.out]; rfl, HW.out⟩

theorem fits_any (f c k a b : Int) (x : Nat → Value) (w : World) (hf : 2 ≤ f) (hf2 : f ≤ 64) :
    Calls Tryd.prog 63 #[.agg (cfgA f c x), .agg #[.int .i64 k, .int .i64 a, .int .i64 b]] w fun e w' => e = .returned (.bool (fitsB f c k a b)) ∧ Below w.heap.size w w' := by
  by_cases h1 : k = 1
  · subst h1; exact fits_1 f c a b x w hf hf2
  · by_cases h2 : k = 2
    · subst h2; exact fits_2 f c a b x w hf hf2
    · by_cases h3 : k = 3
      · subst h3; exact fits_3 f c a b x w
      · by_cases h4 : k = 4
        · subst h4; exact fits_4 f c a b x w
        · exact fits_0 f c k a b x w h1 h2 h3 h4

end Go.Proofs.YtaipifjmkbcjjaaDoor

/- Walks: the reference's reader of forms. -/
namespace Go.Proofs.YtaipifjmkbcjjaaDoor
open Go.RowKit Go.Sort

set_option maxHeartbeats 400000 in
theorem ro_no (b : Nat) (s of : ByteArray) (p : Nat) (ok : Bool) (w : World) (_hs : s.size ≤ maxLen) (hR : Rd 110 b s p (!ok) w) (h : ok = false ∨ s.size ≤ p) :
    Calls Tryd.prog 73 #[.pointer (some ⟨b, 0, none⟩), .string of] w fun e w' => e = .returned (.int .i64 0) ∧ Rd 110 b s p true w' ∧ w.grownBy w' (some b) := by
  unfold maxLen at _hs
  have c0 := hR.c0
  have c1 := hR.c1
  have c2 := hR.c2
  have f2 := hR.fr 2
  cases ok with
  | false =>
    simp only [Bool.not_false] at c2 hR
    go_enter Tryd.func73, Tryd.ntmps73
    go_wp2
    go_quiet (fail)
    go_wp2
    go_ret
    exact ⟨rfl, Rd.setOk (w := w.drewN nq) (by exact hR) true, grown_trans (grown_draw nq) grown_set⟩
  | true =>
    have h : s.size ≤ p := by simpa using h
    simp only [Bool.not_true] at c2 hR
    go_enter Tryd.func73, Tryd.ntmps73
    go_wp2
    go_quiet (fail)
    go_wp2
    go_ret
    exact ⟨rfl, Rd.setOk (w := w.drewN nq) (by exact hR) true, grown_trans (grown_draw nq) grown_set⟩

theorem drewN_add (w : World) (a b : Nat) : (w.drewN a).drewN b = w.drewN (a + b) := by
  simp [World.drewN, Nat.add_assoc]

set_option maxHeartbeats 400000 in
theorem ro_at (b : Nat) (s of : ByteArray) (p : Nat) (c : UInt8) (w : World) (hs : s.size ≤ maxLen) (ho : of.size ≤ maxLen) (hR : Rd 110 b s p false w) (hp : p < s.size) (hc : s[p] = c)
    (r : Int) (p' : Nat) (ok' : Bool) (hres : (r, p', ok') = if ixI of.data.toList (bn c) 0 < 0 then (0, p, false) else (ixI of.data.toList (bn c) 0, p + 1, true)) :
    Calls Tryd.prog 73 #[.pointer (some ⟨b, 0, none⟩), .string of] w fun e w' => e = .returned (.int .i64 r) ∧ Rd 110 b s p' (!ok') w' ∧ w.grownBy w' (some b) := by
  have Hres := Lib.hid hres
  clear hres
  unfold maxLen at hs ho
  have c0 := hR.c0
  have c1 := hR.c1
  have c2 := hR.c2
  have hp2 : (p : Int) < s.size := by omega
  have hp1 : (0 : Int) ≤ p := by omega
  go_enter Tryd.func73, Tryd.ntmps73
  go_wp2
  go_quiet (fail)
  go_wp2
  have HG : Hid (Rd 110 b s p false (w.drewN nq)) := hR
  have HW : Hid (w.grownBy (w.drewN nq) (some b)) := grown_draw nq
  clear c0 c1 c2 hR
  generalize w.drewN nq = W at *
  go_loopw [5] (fun i wr => ∃ k : Nat, k ≤ of.size ∧ i = .int .i64 k ∧ Rd 110 b s p false wr ∧ w.grownBy wr (some b) ∧ ixI (of.data.toList.drop k) (bn c) k = ixI of.data.toList (bn c) 0)
    (fun i _ => of.size - (intOf i).toNat)
  case atStart => exact ⟨0, by omega, rfl, HG.out, HW.out, by simp⟩
  case round =>
    obtain ⟨k, hk, rfl, hR, hgr, hix⟩ := hrel
    have Hix := Lib.hid hix
    have HR := Lib.hid hR
    have HGR := Lib.hid hgr
    clear hix HG HW
    have c0 := hR.c0
    have c1 := hR.c1
    have c2 := hR.c2
    have f1 := hR.fr 1
    have f2 := hR.fr 2
    clear hR hgr
    by_cases hlt : k < of.size
    · have hd := Lib.hid (ixI_drop of (bn c) k hlt)
      have hk2 : (k : Int) < of.size := by omega
      have hk1 : (0 : Int) ≤ k := by omega
      have hwr : IntKind.i64.wrap ((p : Int) + 1) = (p : Int) + 1 := IntWalk.i64_in _ (by omega)
      go_wp2
      go_quiet (fail)
      have HR2 : Hid (Rd 110 b s p false (wr.drewN nq)) := HR.out
      have HG2 : Hid (w.grownBy (wr.drewN nq) (some b)) := grown_trans HGR.out (grown_draw nq)
      by_cases he : bn (of[k]'hlt) = bn c
      · have hq : (((of[k]'hlt).toNat : Int) == (c.toNat : Int)) = true := by simpa [bn] using he
        have hdo := hd.out
        rw [if_pos he] at hdo
        go_wp2
        go_ret
        have hres := Hres.out
        rw [← Hix.out, hdo, if_neg (by omega)] at hres
        simp only [Prod.mk.injEq] at hres
        obtain ⟨rfl, rfl, rfl⟩ := hres
        exact ⟨rfl, HR2.out.setP (p + 1), grown_trans HG2.out grown_set⟩
      · have hq : (((of[k]'hlt).toNat : Int) == (c.toNat : Int)) = false := by simpa [bn] using he
        have hdo := hd.out
        rw [if_neg he] at hdo
        go_wp2
        refine ⟨⟨k + 1, by omega, by go_num, HR2.out, HG2.out, by rw [← Hix.out, hdo]; rfl⟩, ?_⟩
        simp [intOf]; omega
    · have hk2 : ¬ (k : Int) < of.size := by omega
      go_wp2
      go_ret
      have hres := Hres.out
      rw [← Hix.out, List.drop_of_length_le (by simp; omega)] at hres
      rw [show ixI [] (bn c) k = -1 from rfl, if_pos (by decide)] at hres
      simp only [Prod.mk.injEq] at hres
      obtain ⟨rfl, rfl, rfl⟩ := hres
      exact ⟨rfl, HR.out.setOk true, grown_trans HGR.out grown_set⟩

theorem ro_any (b : Nat) (s of : ByteArray) (p : Nat) (ok : Bool) (w : World) (hs : s.size ≤ maxLen) (ho : of.size ≤ maxLen) (hR : Rd 110 b s p (!ok) w) :
    Calls Tryd.prog 73 #[.pointer (some ⟨b, 0, none⟩), .string of] w fun e w' => e = .returned (.int .i64 (rdS s.data.toList of.data.toList p ok).1) ∧
      Rd 110 b s (rdS s.data.toList of.data.toList p ok).2.1 (!(rdS s.data.toList of.data.toList p ok).2.2) w' ∧ w.grownBy w' (some b) := by
  have hl : s.data.toList.length = s.size := by simp
  by_cases h : ok = false ∨ s.size ≤ p
  · simp only [rdS, hl, if_pos h]
    exact ro_no b s of p ok w hs hR h
  · have h' := h
    simp only [not_or, Bool.not_eq_false, Nat.not_le] at h'
    obtain ⟨rfl, hp⟩ := h'
    refine ro_at b s of p (s[p]'hp) w hs ho hR hp rfl _ _ _ ?_
    rw [← byte_at s p hp]
    simp only [rdS, hl, if_neg h]
end Go.Proofs.YtaipifjmkbcjjaaDoor
