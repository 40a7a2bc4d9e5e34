/- Walks: frames written. -/
import Derived.Test.YtaipifjmkbcjjaaDoorD
namespace Go.Proofs.YtaipifjmkbcjjaaDoor
open Go.RowKit

theorem q_same {P : Program} {f : FuncId} {args : Array Value} {w : World} {n : Nat} {v : Value}
    (h : Calls P f args (w.drewN n) fun e w' => e = .returned v ∧ w.drewN n = w') : Calls P f args (w.drewN n) fun e w'' => e = .returned v ∧ ∃ m, w'' = w.drewN m :=
  h.mono fun _ _ ⟨he, hm⟩ => ⟨he, n, hm.symm⟩

theorem belowN {B : Nat} {a w : World} (h : Below B a w) (n : Nat) : Below B a (w.drewN n) := ⟨h.os, h.tape, h.output, h.size, h.block⟩

theorem bcell {W w1 : World} (hb : Below W.heap.size W w1) : (∀ b o, b < W.heap.size → w1.cell? ⟨b, o, none⟩ = W.cell? ⟨b, o, none⟩) ∧ (∀ b o, b < W.heap.size → w1.frozen? ⟨b, o, none⟩ = W.frozen? ⟨b, o, none⟩) :=
  ⟨fun b o h => hb.cell (p := ⟨b, o, none⟩) h, fun b o h => hb.frozen (p := ⟨b, o, none⟩) h⟩

theorem cell_alloc_old {w : World} {o : Obj} {b off : Nat} {v : Value} (hb : b < w.heap.size) (h : w.cell? ⟨b, off, none⟩ = some v) : (w.alloc o).cell? ⟨b, off, none⟩ = some v :=
  (World.cell?_alloc_lt w o ⟨b, off, none⟩ hb).trans h
theorem cell_below {B : Nat} {w w' : World} {b off : Nat} {v : Value} (h : Below B w w') (hb : b < B) (hc : w.cell? ⟨b, off, none⟩ = some v) : w'.cell? ⟨b, off, none⟩ = some v :=
  (h.cell (p := ⟨b, off, none⟩) hb).trans hc

theorem ret_str_int {a b : ByteArray} {k : IntKind} {n : Int} (h : a = b) : Ending.returned (.tuple #[.string a, .int k n]) = .returned (.tuple #[.string b, .int k n]) := by rw [h]

attribute [local go_sem] bs_size bs_append

set_option maxHeartbeats 1000000 in
theorem encode_ok (t k a b : Int) (w : World) (h : chk t k a b = 0) (hg : Glob w) :
    Calls Tryd.prog 48 #[.agg #[.int .i64 t, .int .i64 k, .int .i64 a, .int .i64 b]] w fun e w' => e = .returned (.tuple #[.string (bs (form t k a b)), .int .i64 0]) ∧ Below w.heap.size w w' := by
  obtain ⟨t1, t2, k1, k2, a1, a2, b1, b2⟩ := chk_ok h
  go_enter Tryd.func48, Tryd.ntmps48
  have H := Lib.hid h
  clear h
  go_wp2_with (go_at_call 54; refine (check_any _ _ _ _ _).mono ?_; rintro e w1 ⟨rfl, hb⟩; rw [H.out]; obtain ⟨hc, hf⟩ := bcell hb)
  have hz : w.heap.size + 1 ≤ w1.heap.size := by have := hb.size; simpa using this
  have c0 : (w1.alloc (Obj.cells #[.int .i64 k, .int .i64 a, .int .i64 b] 43)).cell? ⟨w.heap.size, 0, none⟩ = some (.int .i64 t) := by
    exact cell_alloc_old (by omega) (cell_below hb (by simp) (by simp))
  have c1 : (w1.alloc (Obj.cells #[.int .i64 k, .int .i64 a, .int .i64 b] 43)).cell? ⟨w1.heap.size, 0, none⟩ = some (.int .i64 k) := by simp
  have c2 : (w1.alloc (Obj.cells #[.int .i64 k, .int .i64 a, .int .i64 b] 43)).cell? ⟨w1.heap.size, 1, none⟩ = some (.int .i64 a) := by simp
  have c3 : (w1.alloc (Obj.cells #[.int .i64 k, .int .i64 a, .int .i64 b] 43)).cell? ⟨w1.heap.size, 2, none⟩ = some (.int .i64 b) := by simp
  have hb2 : Below w.heap.size w (w1.alloc (Obj.cells #[.int .i64 k, .int .i64 a, .int .i64 b] 43)) :=
    (((Below.refl _ _).alloc (Nat.le_refl _) _).trans (hb.mono (by simp))).alloc (by omega) _
  clear hc hf hb
  generalize w1.alloc (Obj.cells #[.int .i64 k, .int .i64 a, .int .i64 b] 43) = W2 at *
  have hts : ({ data := #[80, 83, 68] } : ByteArray).extract (t.toNat - 1) t.toNat = bs [tagB t] := by
    have h := tag_slice t t1 t2; rw [show (t - 1).toNat = t.toNat - 1 by omega] at h; exact h
  have hks : ({ data := #[104, 99, 107, 109] } : ByteArray).extract (k.toNat - 1) k.toNat = bs [kindB k] := by
    have h := kind_slice k k1 k2; rw [show (k - 1).toNat = k.toNat - 1 by omega] at h; exact h
  have e44 : ({ data := #[44] } : ByteArray) = bs [44] := rfl
  have e59 : ({ data := #[59] } : ByteArray) = bs [59] := rfl
  have la := digs_len a.toNat
  have lb := digs_len b.toNat
  have lp := pay_len t k a b
  go_quiet ((go_at_call 78; exact q_same (itoa_any _ _ (by omega) (by omega))))
  have e60 : ({ data := #[60] } : ByteArray) = bs [60] := rfl
  have e62 : ({ data := #[62] } : ByteArray) = bs [62] := rfl
  have lh : (hexS (crc (pay t k a b))).length ≤ 2 := by simp [hexS]
  go_wp2_with (go_at_call 72; refine (sum_any (bs (pay t k a b)) _ (by rw [bs_size]; unfold maxLen; omega) (hg.next (belowN hb2 _))).mono ?_; rintro e w3 ⟨rfl, hb3⟩; rw [bs_list])
  go_ret2
  exact ⟨ret_str_int (by simp [form, pay]), (belowN hb2 nq).trans (hb3.mono hb2.size)⟩

set_option maxHeartbeats 400000 in
theorem encode_bad (t k a b : Int) (w : World) (h : chk t k a b ≠ 0) :
    Calls Tryd.prog 48 #[.agg #[.int .i64 t, .int .i64 k, .int .i64 a, .int .i64 b]] w fun e w' => e = .returned (.tuple #[.string (bs []), .int .i64 (chk t k a b)]) ∧ Below w.heap.size w w' := by
  have hne : (chk t k a b != 0) = true := by simpa using h
  go_enter Tryd.func48, Tryd.ntmps48
  clear h
  go_wp2_with (go_at_call 54; refine (check_any _ _ _ _ _).mono ?_; rintro e w1 ⟨rfl, hb⟩)
  go_ret2
  exact ⟨rfl, ((Below.refl _ _).alloc (Nat.le_refl _) _).trans (hb.mono (by simp))⟩

/-- What 'Encode' answers. -/
def encF (t k a b : Int) : List UInt8 × Int := if chk t k a b = 0 then (form t k a b, 0) else ([], chk t k a b)

theorem encode_any (t k a b : Int) (w : World) (hg : Glob w) :
    Calls Tryd.prog 48 #[.agg #[.int .i64 t, .int .i64 k, .int .i64 a, .int .i64 b]] w fun e w' => e = .returned (.tuple #[.string (bs (encF t k a b).1), .int .i64 (encF t k a b).2]) ∧ Below w.heap.size w w' := by
  by_cases h : chk t k a b = 0
  · simp only [encF, if_pos h]; exact encode_ok t k a b w h hg
  · simp only [encF, if_neg h]; exact encode_bad t k a b w h

theorem encF_len (t k a b : Int) : (encF t k a b).1.length ≤ 12 := by
  have := pay_len t k a b
  unfold encF; split
  · simp only [form_len]; omega
  · simp

set_option maxHeartbeats 400000 in
theorem length_any (t k a b : Int) (w : World) (hg : Glob w) :
    Calls Tryd.prog 51 #[.agg #[.int .i64 t, .int .i64 k, .int .i64 a, .int .i64 b]] w fun e w' => e = .returned (.tuple #[.int .i64 (encF t k a b).1.length, .int .i64 (encF t k a b).2]) ∧ Below w.heap.size w w' := by
  have hl := encF_len t k a b
  go_enter Tryd.func51, Tryd.ntmps51
  go_wp2_with (go_at_call 48; refine (encode_any _ _ _ _ _ (hg.next ((Below.refl _ _).alloc (Nat.le_refl _) _))).mono ?_; rintro e w1 ⟨rfl, hb⟩)
  go_ret2
  exact ⟨rfl, ((Below.refl _ _).alloc (Nat.le_refl _) _).trans (hb.mono (by simp))⟩

end Go.Proofs.YtaipifjmkbcjjaaDoor
