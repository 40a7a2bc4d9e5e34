/- Walks: where the next angle bracket stands, in short texts of whatever bytes. -/
import Derived.Test.YtaipifjmkbcjjaaDoorZg1
import Derived.Laws.RangeAny
import Derived.WalkMore
import Derived.Lib.OthersKept
namespace Go.Proofs.YtaipifjmkbcjjaaDoor
open Go.RowKit Go.Sort

abbrev angles : ByteArray := ⟨#[60, 62]⟩

theorem validRune_any (r : Int) (w : World) (h0 : 128 ≤ r) (h1 : r ≤ 2147483647) :
    Calls Tryd.prog 107 #[.int .i32 r] w fun e w' => e = .returned (.bool (Utf8.valid r)) ∧ w = w' := by
  rcases (show r < 55296 ∨ (55296 ≤ r ∧ r ≤ 57343) ∨ (57343 < r ∧ r ≤ 1114111) ∨ 1114111 < r by omega) with h | h | h | h
  · have e : Utf8.valid r = true := by simp [Utf8.valid]; omega
    rw [e]
    go_enter Tryd.func107, Tryd.ntmps107
    go_wp2
    go_ret
    exact ⟨rfl, rfl⟩
  · have e : Utf8.valid r = false := by simp [Utf8.valid]; omega
    rw [e]
    go_enter Tryd.func107, Tryd.ntmps107
    go_wp2
    go_ret
    exact ⟨rfl, rfl⟩
  · have e : Utf8.valid r = true := by simp [Utf8.valid]; omega
    rw [e]
    go_enter Tryd.func107, Tryd.ntmps107
    go_wp2
    go_ret
    exact ⟨rfl, rfl⟩
  · have e : Utf8.valid r = false := by simp [Utf8.valid]; omega
    rw [e]
    go_enter Tryd.func107, Tryd.ntmps107
    go_wp2
    go_ret
    exact ⟨rfl, rfl⟩

set_option maxRecDepth 100000 in
theorem indexRune_err (w : World) :
    Calls Tryd.prog 98 #[.string angles, .int .i32 65533] w fun e w' => e = .returned (.int .i64 (-1)) ∧ Below w.heap.size w w' := by
  have ha : ∀ k (h : k < angles.size), (angles[k]'h).toNat < 128 := by decide
  have hz : angles.size ≤ 2 := by decide
  generalize angles = s at *
  go_enter Tryd.func98, Tryd.ntmps98
  go_wp2_with fail
  go_loopw [5, 6] (fun a b wr => ∃ k : Nat, k ≤ s.size ∧ wr = w.iter s k) (fun _ _ wr => s.size - wr.iterPos w.heap.size)
  case atStart => exact ⟨0, by omega, rfl⟩
  case round =>
    obtain ⟨k, hk, rfl⟩ := hrel
    by_cases hlt : k < s.size
    · have hn := run_next_ascii (P := Tryd.prog) w s k
      have hb := ha k hlt
      have hne : ((s[k].toNat : Int) == 65533) = false := by simp; omega
      go_wp2
      refine ⟨⟨k + 1, by omega, rfl⟩, ?_⟩
      rw [World.iterPos_iter, World.iterPos_iter]; omega
    · have hn := run_next_end (P := Tryd.prog) w s k
      go_wp2
      go_ret
      exact ⟨rfl, (Below.refl _ _).alloc (Nat.le_refl _) _⟩

set_option maxRecDepth 100000 in
theorem indexRune_hi (r : Int) (w : World) (h0 : 128 ≤ r) (h1 : r ≤ 2147483647) :
    Calls Tryd.prog 98 #[.string angles, .int .i32 r] w fun e w' => e = .returned (.int .i64 (-1)) ∧ Below w.heap.size w w' := by
  by_cases he : r = 65533
  · subst he; exact indexRune_err w
  have he' : (r == 65533) = false := by simpa using he
  cases hv : Utf8.valid r with
  | false =>
    go_enter Tryd.func98, Tryd.ntmps98
    go_wp2_with (go_at_call 107; refine (validRune_any r _ h0 h1).mono ?_; rintro e w1 ⟨rfl, rfl⟩)
    go_ret
    exact ⟨rfl, Below.refl _ _⟩
  | true =>
    obtain ⟨rs, hrs, hsz, hl⟩ : ∃ rs : ByteArray, Utf8.encode r = rs ∧ (rs.size = 2 ∨ rs.size = 3 ∨ rs.size = 4) ∧ ∀ h : rs.size - 1 < rs.size, 128 ≤ (rs[rs.size - 1]'h).toNat := by
      obtain ⟨n1, n2, n3⟩ := encode_facts r hv h0
      exact ⟨_, rfl, by omega, n3⟩
    have hcv : ∀ W : World, (convert 21 9 (.int .i32 r)).run Tryd.prog W = .ok (.string rs) W := fun W => by
      rw [run_convert_int_string _ _ _ _ _ (by kernel_rfl) (by kernel_rfl), hrs]
    rcases hsz with hz | hz | hz
    · have h1' : 1 < rs.size := by omega
      have hl1 : 128 ≤ (rs[1]'h1').toNat := by
        have := hl (by omega)
        have e : rs[rs.size - 1] = rs[1]'h1' := by congr 1; omega
        rw [e] at this; exact this
      have hne : (((angles[1]'(by decide)).toNat : Int) != (rs[1]'h1').toNat) = true := by
        have : (angles[1]'(by decide)).toNat = 62 := rfl
        rw [this]; simp; omega
      have c92 : ∀ W : World, Calls Tryd.prog 92 #[.string ByteArray.empty, .int .u8 ((rs[1]'h1').toNat : Int)] W fun e w' => e = .returned (.int .i64 (-1)) ∧ W = w' := fun W => by
        refine (Tryd.strings_IndexByte ByteArray.empty ((rs[1]'h1').toNat : Int) W).mono ?_
        rintro e w' ⟨he, hw⟩
        have e0 : ByteArray.empty.data.toList = [] := by decide
        rw [e0] at he
        exact ⟨he, hw.symm⟩
      clear hl hrs
      go_enter Tryd.func98, Tryd.ntmps98
      go_wp2_with (go_at_call 107; refine (validRune_any r _ h0 h1).mono ?_; rintro e w1 ⟨rfl, rfl⟩)
      clear hv
      go_step3
      go_wp2_with fail
      refine wp_loop_rounds 1 ?_
      rw [rounds_succ]
      go_wp2_with fail
      go_step3
      go_wp2_with fail
      go_quiet (fail)
      have HB := Lib.hid (belowN (Below.refl w.heap.size w) nq)
      generalize w.drewN nq = W at *
      go_wp2_with fail
      go_quiet ((go_at_call 92; exact q_same (c92 _)))
      have HB2 := Lib.hid (belowN HB.out nq)
      go_wp2
      simp only [Exit.noGoto_ret, Exit.inBlock, Exit.then]
      change bodyPost Tryd.prog Tryd.f98 (fun e w' => e = .returned (.int .i64 (-1)) ∧ Below w.heap.size w w') .ret _ _
      go_ret
      exact ⟨rfl, HB2.out⟩
    all_goals
      clear hl hrs
      go_enter Tryd.func98, Tryd.ntmps98
      go_wp2_with (go_at_call 107; refine (validRune_any r _ h0 h1).mono ?_; rintro e w1 ⟨rfl, rfl⟩)
      clear hv
      go_step3
      go_wp2_with fail
      refine wp_loop_rounds 1 ?_
      rw [rounds_succ]
      go_wp2_with fail
      rw [Exit.noGoto_ret]
      change bodyPost Tryd.prog Tryd.f98 (fun e w' => e = .returned (.int .i64 (-1)) ∧ Below w.heap.size w w') .ret _ _
      go_ret
      exact ⟨rfl, Below.refl _ _⟩
theorem decode_tail (s : ByteArray) (pos : Nat) (j : Nat) (hj : pos < j) (hj2 : j < pos + (Utf8.decode s pos).2) : ∃ hs : j < s.size, 128 ≤ (s[j]'hs).toNat := by
  have key : ∀ k, pos + k < s.size → (s.get! (pos + k)).toNat / 64 = 2 → ∃ hs : pos + k < s.size, 128 ≤ (s[pos + k]'hs).toNat := fun k hk h64 => by
    have e : s.get! (pos + k) = s[pos + k]'hk := by
      simp [ByteArray.get!, getElem!_pos, hk]; rfl
    rw [e] at h64
    exact ⟨hk, by omega⟩
  have e : ∃ k, j = pos + k ∧ 1 ≤ k := ⟨j - pos, by omega, by omega⟩
  obtain ⟨k, rfl, hk⟩ := e
  simp only [Utf8.decode] at hj2
  repeat' split at hj2
  all_goals simp only [Bool.and_eq_true, decide_eq_true_eq, beq_iff_eq, not_and] at *
  all_goals
    have hk3 : k = 1 ∨ k = 2 ∨ k = 3 ∨ 4 ≤ k := by omega
    rcases hk3 with rfl | rfl | rfl | h4
  all_goals first
  | omega
  | (refine key 1 ?_ ?_ <;> omega)
  | (refine key 2 ?_ ?_ <;> omega)
  | (refine key 3 ?_ ?_ <;> omega)

theorem useSet_any (n : Int) (w : World) : Calls Tryd.prog 99 #[.int .i64 n] w fun e w' => e = .returned (.bool (decide (8 < n))) ∧ w = w' := by
  go_enter Tryd.func99, Tryd.ntmps99
  go_wp2
  go_ret
  exact ⟨rfl, rfl⟩

theorem indexRune_lo (b : UInt8) (w : World) (h : b.toNat < 128) : Calls Tryd.prog 98 #[.string angles, .int .i32 (b.toNat : Int)] w fun e w' => e = .returned (.int .i64 (Lib.indexByte [60, 62] b)) ∧ w = w' := by
  refine (Tryd.strings_IndexRune_ascii angles (b.toNat : Int) w (by omega) (by omega)).mono ?_
  rintro e w' ⟨he, hw⟩
  have e1 : angles.data.toList = [60, 62] := by decide
  have e2 : ((b.toNat : Int).toNat.toUInt8) = b := by simp
  rw [e1, e2] at he
  exact ⟨he, hw.symm⟩

theorem ixB_ge (b : UInt8) : (decide (0 ≤ Lib.indexByte [60, 62] b)) = [60, 62].contains b := by
  have h : ∀ n : Fin 256, (decide (0 ≤ Lib.indexByte [60, 62] (UInt8.ofNat n.val))) = [60, 62].contains (UInt8.ofNat n.val) := by decide +kernel
  have := h ⟨b.toNat, b.toNat_lt⟩
  simpa using this

theorem World.alloc_heap_new' (w : World) (o : Obj) : (w.alloc o).heap[w.heap.size]? = some o := by
  show (w.heap.push _)[w.heap.size]? = _; simp

theorem notAngle {b : UInt8} (h : 128 ≤ b.toNat) : [60, 62].contains b = false := by
  have k : ∀ n : Fin 256, 128 ≤ n.val → [60, 62].contains (UInt8.ofNat n.val) = false := by decide +kernel
  have := k ⟨b.toNat, b.toNat_lt⟩ h
  simpa using this

theorem data_get (s : ByteArray) (j : Nat) (h : j < s.size) : s.data.toList[j]? = some (s[j]'h) := by
  have h' : j < s.data.toList.length := by simpa using h
  rw [List.getElem?_eq_getElem h']; rfl

theorem noAny_jump (s : ByteArray) (k : Nat) (hk : k < s.size) (h : Lib.NoAny s.data.toList [60, 62] k) (hi : 128 ≤ (s[k]'hk).toNat) : Lib.NoAny s.data.toList [60, 62] (k + (Utf8.decode s k).2) := by
  intro j b hj hb
  rcases Nat.lt_trichotomy j k with h1 | h1 | h1
  · exact h j b h1 hb
  · subst h1
    rw [data_get s j hk] at hb; cases hb
    exact notAngle hi
  · obtain ⟨hs, h2⟩ := decode_tail s k j h1 hj
    rw [data_get s j hs] at hb; cases hb
    exact notAngle h2

theorem decode_fit (s : ByteArray) (k : Nat) (hk : k < s.size) (hi : 128 ≤ (s[k]'hk).toNat) : k + (Utf8.decode s k).2 ≤ s.size := by
  have h1 := (decode_high s k hk hi).2
  rcases Nat.lt_or_ge 1 (Utf8.decode s k).2 with h | h
  · obtain ⟨hs, -⟩ := decode_tail s k (k + (Utf8.decode s k).2 - 1) (by omega) (by omega)
    omega
  · omega

set_option maxHeartbeats 1000000 in
theorem indexAny_short (s : ByteArray) (w : World) (h8 : s.size ≤ 8) :
    Calls Tryd.prog 94 #[.string s, .string angles] w fun e w' => e = .returned (.int .i64 (Lib.indexAny s.data.toList [60, 62])) ∧ Below w.heap.size w w' := by
  have h8z : decide ((8 : Int) < (s.size : Int)) = false := decide_eq_false (by omega)
  go_enter Tryd.func94, Tryd.ntmps94
  go_wp2_with (go_at_call 99; refine (useSet_any _ _).mono ?_; rintro e w1 ⟨rfl, rfl⟩; rw [h8z])
  go_loopw [9, 10] (fun a b wr => ∃ k : Nat, k ≤ s.size ∧ wr.heap[w.heap.size]? = some (.stringIter s k) ∧ Below w.heap.size w wr ∧ Lib.NoAny s.data.toList [60, 62] k) (fun _ _ wr => s.size - wr.iterPos w.heap.size)
  case atStart => exact ⟨0, by omega, World.alloc_heap_new' _ _, (Below.refl _ _).alloc (Nat.le_refl _) _, Lib.NoAny.zero _ _⟩
  case round =>
    obtain ⟨k, hk, hit, hb, hno⟩ := hrel
    have HIT := Lib.hid hit
    have HB := Lib.hid hb
    have HNO := Lib.hid hno
    have hpos : wr.iterPos w.heap.size = k := by simp [World.iterPos, hit]
    by_cases hlt : k < s.size
    · by_cases hlo : (s[k]'hlt).toNat < 128
      · have hn := fun ty => Lib.run_next_ascii_at (P := Tryd.prog) wr w.heap.size s k ty hit hlt hlo
        obtain ⟨b, hbe⟩ : ∃ b, s[k]'hlt = b := ⟨_, rfl⟩
        simp only [hbe] at hn hlo
        have hcall := fun W => indexRune_lo b W hlo
        have hge := ixB_ge b
        clear hit hb hno
        go_wp2_with (first | (go_at_call 98; refine (hcall _).mono ?_; rintro e w1 ⟨rfl, rfl⟩) | fail)
        · rename_i hq
          go_ret
          refine ⟨ret_int ?_, Lib.below_iterAt HB.out (Nat.le_refl _) _ _⟩
          rw [Lib.indexAny_hit HNO.out (data_get s k hlt) (by rw [hbe]; rcases hq with rfl | rfl <;> decide)]
        · rename_i hq
          refine ⟨⟨k + 1, by omega, Lib.iterAt_heap _ _ _ _ _ HIT.out, Lib.below_iterAt HB.out (Nat.le_refl _) _ _, HNO.out.succ (data_get s k hlt) (by rw [hbe]; simp; simpa using hq)⟩, ?_⟩
          have : (wr.iterAt w.heap.size s (k + 1)).iterPos w.heap.size = k + 1 := by simp [World.iterPos, Lib.iterAt_heap _ _ _ _ _ HIT.out]
          rw [this, hpos]; omega
      · have hhi : 128 ≤ (s[k]'hlt).toNat := by omega
        have hd1 := (decode_high s k hlt hhi).1
        have hd2 := (decode_high s k hlt hhi).2
        have hd3 := decode_le s k
        have HJ := Lib.hid (noAny_jump s k hlt hno hhi)
        have HF := Lib.hid (decode_fit s k hlt hhi)
        have hn := fun ty => Lib.run_next_any_at (P := Tryd.prog) wr w.heap.size s k ty hit hlt
        generalize (Utf8.decode s k).1 = c at *
        generalize (Utf8.decode s k).2 = wd at *
        have hcall := fun W => indexRune_hi (c : Int) W (by omega) (by omega)
        have HIT2 : Hid ((wr.iterAt w.heap.size s (k + wd)).heap[w.heap.size]? = some (.stringIter s (k + wd))) := Lib.iterAt_heap _ _ _ _ _ hit
        have HB2 := Lib.hid (Lib.below_iterAt hb (Nat.le_refl _) s (k + wd))
        clear hit hb hno hlo hhi
        go_wp2_with (first | (go_at_call 98; refine (hcall _).mono ?_; rintro e w1 ⟨rfl, hb1⟩) | fail)
        have hlt2 := (Array.getElem?_eq_some_iff.1 HIT2.out).1
        have h3 : w1.heap[w.heap.size]? = some (.stringIter s (k + wd)) := (hb1.block _ hlt2).trans HIT2.out
        refine ⟨⟨k + wd, HF.out, h3, HB2.out.trans (hb1.mono HB2.out.size), HJ.out⟩, ?_⟩
        have : w1.iterPos w.heap.size = k + wd := by simp [World.iterPos, h3]
        rw [this, hpos]; omega
    · have hn := fun ty => Lib.run_next_end_at (P := Tryd.prog) wr w.heap.size s k ty hit hlt
      have hks : k = s.data.toList.length := by simp; omega
      clear hit hb hno
      go_wp2
      go_ret
      refine ⟨ret_int ?_, HB.out⟩
      rw [Lib.indexAny_none (by rw [← hks]; exact HNO.out)]

theorem indexAny_any (s : ByteArray) (w : World) (h : s.size ≤ 1000) :
    Calls Tryd.prog 94 #[.string s, .string angles] w fun e w' => e = .returned (.int .i64 (Lib.indexAny s.data.toList [60, 62])) ∧ Below w.heap.size w w' := by
  by_cases h8 : s.size ≤ 8
  · exact indexAny_short s w h8
  · have e1 : angles.data.toList = [60, 62] := by decide
    refine (Tryd.strings_IndexAny_long (fun _ => by kernel_rfl) s angles w (by decide) (by omega) (by omega) (by decide) (by
      rw [e1]; intro j b hj
      have := List.mem_of_getElem? hj
      simp at this
      rcases this with rfl | rfl <;> decide)).mono ?_
    rintro e w' ⟨he, rfl⟩
    rw [e1] at he
    exact ⟨he, ((Below.refl _ _).alloc (Nat.le_refl _) _).alloc (by simp) _⟩

end Go.Proofs.YtaipifjmkbcjjaaDoor
