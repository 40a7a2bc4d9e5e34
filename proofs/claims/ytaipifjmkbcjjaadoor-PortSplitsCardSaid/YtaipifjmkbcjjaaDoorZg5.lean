/- Plain words: the program's look at the next sixteen bytes finds what the reference's look at all of them finds. -/
import Derived.Test.YtaipifjmkbcjjaaDoorZFd
import Derived.Test.YtaipifjmkbcjjaaDoorZg3
namespace Go.Proofs.YtaipifjmkbcjjaaDoor

/-- The frame at the beginning of a stream, as the reference looks for it. -/
def oneR (L : List UInt8) : Fr × Nat :=
  if L.getD 0 0 ≠ 60 then (fr0, 1)
  else if Lib.indexAny (L.drop 1) [60, 62] < 0 then (fr0, 1)
  else if (L.drop 1).getD (Lib.indexAny (L.drop 1) [60, 62]).toNat 0 ≠ 62 then (fr0, 1)
  else if (decS (L.take ((Lib.indexAny (L.drop 1) [60, 62]).toNat + 2))).er ≠ 0 then (fr0, 1)
  else (let d := decS (L.take ((Lib.indexAny (L.drop 1) [60, 62]).toNat + 2)); (⟨d.t, d.k, d.a, d.b⟩, (Lib.indexAny (L.drop 1) [60, 62]).toNat + 2))

theorem indexAny_take (c : List UInt8) (n : Nat) : ∀ l : List UInt8, Lib.indexAny (l.take n) c = if Lib.indexAny l c < n then Lib.indexAny l c else -1 := by
  induction n with
  | zero =>
    intro l
    rw [List.take_zero]
    have := Lib.indexAny_ge c l
    split
    · simp [Lib.indexAny]; omega
    · rfl
  | succ n ih =>
    intro l
    cases l with
    | nil => simp only [Lib.indexAny, List.take_nil]; exact (ite_self _).symm
    | cons b l =>
      rw [List.take_succ_cons]
      have hg := Lib.indexAny_ge c l
      unfold Lib.indexAny
      rw [ih l]
      generalize Lib.indexAny l c = x at *
      by_cases hc : c.contains b = true
      · rw [if_pos hc, if_pos hc, if_pos (by push_cast; omega)]
      · rw [if_neg hc, if_neg hc]
        have e1 : (x == -1) = decide (x = -1) := rfl
        have e2 : ((if x < (n : Int) then x else -1) == -1) = decide ((if x < (n : Int) then x else -1) = -1) := rfl
        rw [e1, e2]
        simp only [decide_eq_true_eq]
        push_cast
        repeat' split
        all_goals omega

theorem oneS_R (L : List UInt8) (h0 : 0 < L.length) : oneS L = oneR L := by
  unfold oneS oneR
  by_cases h1 : L.getD 0 0 ≠ 60
  · rw [if_pos h1, if_pos h1]
  rw [if_neg h1, if_neg h1]
  have ht : Lib.indexAny (nearS L) [60, 62] = if Lib.indexAny (L.drop 1) [60, 62] < (16 : Nat) then Lib.indexAny (L.drop 1) [60, 62] else -1 := indexAny_take _ _ _
  have hlt := indexAny_lt (L.drop 1) [60, 62]
  have hge := Lib.indexAny_ge [60, 62] (L.drop 1)
  rw [ht]
  generalize he : Lib.indexAny (L.drop 1) [60, 62] = e at *
  by_cases h2 : e < (16 : Nat)
  · rw [if_pos h2]
    by_cases h3 : e < 0
    · rw [if_pos h3, if_pos h3]
    · rw [if_neg h3, if_neg h3]
      have hn : (nearS L).getD e.toNat 0 = (L.drop 1).getD e.toNat 0 := by
        unfold nearS
        exact getD_take (by omega)
      rw [hn]
  · rw [if_neg h2, if_pos (by decide)]
    have h3 : ¬ e < 0 := by omega
    rw [if_neg h3]
    split
    · rfl
    · rw [if_pos]
      have hl : 16 < (L.take (e.toNat + 2)).length := by
        rw [List.length_take]; rw [List.length_drop] at hlt; omega
      rw [decS, if_pos hl]; decide
end Go.Proofs.YtaipifjmkbcjjaaDoor

/- Walks: the reference's look for the end of a frame. -/
namespace Go.Proofs.YtaipifjmkbcjjaaDoor
open Go.RowKit Go.Sort

def endF : List UInt8 → Nat → Nat
  | [], _ => 0
  | b :: l, n => if b = 60 then 0 else if b = 62 then n + 1 else endF l (n + 1)

theorem endF_ix : ∀ (l : List UInt8) (n : Nat), endF l n = if Lib.indexAny l [60, 62] < 0 then 0 else if l.getD (Lib.indexAny l [60, 62]).toNat 0 ≠ 62 then 0 else n + (Lib.indexAny l [60, 62]).toNat + 1
  | [], n => by simp [endF, Lib.indexAny]
  | b :: l, n => by
    have hg := Lib.indexAny_ge [60, 62] l
    unfold endF Lib.indexAny
    by_cases h1 : b = 60
    · subst h1; simp
    · by_cases h2 : b = 62
      · subst h2; simp
      · have hc : ([60, 62] : List UInt8).contains b = false := by simp [h1, h2]
        rw [if_neg h1, if_neg h2, endF_ix l (n + 1), hc]
        simp only [Bool.false_eq_true, if_false]
        by_cases h3 : Lib.indexAny l [60, 62] = -1
        · rw [h3]; simp
        · have e1 : (Lib.indexAny l [60, 62] == -1) = false := by simpa using h3
          rw [e1]
          simp only [Bool.false_eq_true, if_false]
          obtain ⟨j, hj⟩ : ∃ j : Nat, Lib.indexAny l [60, 62] = j := ⟨(Lib.indexAny l [60, 62]).toNat, by omega⟩
          rw [hj]
          have h4 : ¬ ((j : Int) < 0) := by omega
          have h5 : ¬ ((j : Int) + 1 < 0) := by omega
          rw [if_neg h4, if_neg h5]
          simp only [Int.toNat_natCast]
          rw [show ((j : Int) + 1).toNat = j + 1 by omega, List.getD_cons_succ]
          split
          · rfl
          · omega

theorem endF_drop (s : ByteArray) (k : Nat) (h : k < s.size) : endF (s.data.toList.drop k) k = if bn s[k] = 60 then 0 else if bn s[k] = 62 then k + 1 else endF (s.data.toList.drop (k + 1)) (k + 1) := by
  rw [drop_cons (by simpa using h), byte_at s k h]
  show (if s[k] = 60 then 0 else if s[k] = 62 then k + 1 else endF _ (k + 1)) = _
  have e1 : ∀ b : UInt8, (b = 60) = (bn b = 60) := fun b => by
    apply propext; constructor
    · rintro rfl; rfl
    · intro e; have e' : (b.toNat : Int) = 60 := e; exact UInt8.toNat_inj.1 (show b.toNat = 60 by omega)
  have e2 : ∀ b : UInt8, (b = 62) = (bn b = 62) := fun b => by
    apply propext; constructor
    · rintro rfl; rfl
    · intro e; have e' : (b.toNat : Int) = 62 := e; exact UInt8.toNat_inj.1 (show b.toNat = 62 by omega)
  simp only [e1, e2]

set_option maxHeartbeats 400000 in
theorem end_any (s : ByteArray) (p : Nat) (w : World) (hp : p < s.size) (hs : s.size ≤ maxLen) :
    Calls Tryd.prog 77 #[.string s, .int .i64 p] w fun e w' => e = .returned (.int .i64 (endF (s.data.toList.drop (p + 1)) (p + 1))) ∧ w' = w := by
  unfold maxLen at hs
  have hwr : IntKind.i64.wrap ((p : Int) + 1) = (p : Int) + 1 := IntWalk.i64_in _ (by omega)
  go_enter Tryd.func77, Tryd.ntmps77
  go_wp2
  go_loopw [5] (fun i wr => ∃ k : Nat, k ≤ s.size ∧ i = .int .i64 k ∧ endF (s.data.toList.drop k) k = endF (s.data.toList.drop (p + 1)) (p + 1) ∧ wr = w)
    (fun i _ => s.size - (intOf i).toNat)
  case atStart => exact ⟨p + 1, by omega, by simp, rfl, rfl⟩
  case round =>
    obtain ⟨k, hk, rfl, hE, rfl⟩ := hrel
    have HE := Lib.hid hE
    clear hE
    by_cases hlt : k < s.size
    · have hd := Lib.hid (endF_drop s k hlt)
      have hk2 : (k : Int) < s.size := by omega
      have hk1 : (0 : Int) ≤ k := by omega
      by_cases h60 : bn (s[k]'hlt) = 60
      · have hq : (((s[k]'hlt).toNat : Int) == 60) = true := by simpa [bn] using h60
        have hdo := hd.out
        rw [if_pos h60] at hdo
        clear hd h60
        go_wp2
        go_ret
        rw [← HE.out, hdo]; exact ⟨rfl, by trivial⟩
      · have hq : (((s[k]'hlt).toNat : Int) == 60) = false := by simpa [bn] using h60
        have hdo := hd.out
        rw [if_neg h60] at hdo
        clear hd h60
        by_cases h62 : bn (s[k]'hlt) = 62
        · have hq2 : (((s[k]'hlt).toNat : Int) == 62) = true := by simpa [bn] using h62
          have hwk : IntKind.i64.wrap ((k : Int) + 1) = (k : Int) + 1 := IntWalk.i64_in _ (by omega)
          rw [if_pos h62] at hdo
          have Hdo := Lib.hid hdo
          clear hdo h62
          go_wp2
          go_ret
          rw [← HE.out, Hdo.out]; exact ⟨by simp, rfl⟩
        · have hq2 : (((s[k]'hlt).toNat : Int) == 62) = false := by simpa [bn] using h62
          have hwk : IntKind.i64.wrap ((k : Int) + 1) = (k : Int) + 1 := IntWalk.i64_in _ (by omega)
          rw [if_neg h62] at hdo
          have Hdo := Lib.hid hdo
          clear hdo h62
          go_wp2
          refine ⟨⟨k + 1, by omega, by go_num, by rw [← HE.out, Hdo.out], by trivial⟩, ?_⟩
          simp [intOf]; omega
    · have hk2 : ¬ (k : Int) < s.size := by omega
      go_wp2
      go_ret
      rw [← HE.out, List.drop_of_length_le (by simp; omega)]
      exact ⟨rfl, rfl⟩

/-- The reference's look, as the whole text has it. -/
theorem oneR_end (L : List UInt8) (h60 : L.getD 0 0 = 60) : oneR L = if endF (L.drop 1) 1 = 0 then (fr0, 1) else if (decS (L.take (endF (L.drop 1) 1))).er ≠ 0 then (fr0, 1)
    else (let d := decS (L.take (endF (L.drop 1) 1)); (⟨d.t, d.k, d.a, d.b⟩, endF (L.drop 1) 1)) := by
  unfold oneR
  rw [if_neg (by simpa using h60), endF_ix]
  by_cases h1 : Lib.indexAny (L.drop 1) [60, 62] < 0
  · rw [if_pos h1, if_pos h1]; simp
  · rw [if_neg h1, if_neg h1]
    by_cases h2 : (L.drop 1).getD (Lib.indexAny (L.drop 1) [60, 62]).toNat 0 ≠ 62
    · rw [if_pos h2, if_pos h2]; simp
    · rw [if_neg h2, if_neg h2]
      rw [show 1 + (Lib.indexAny (L.drop 1) [60, 62]).toNat + 1 = (Lib.indexAny (L.drop 1) [60, 62]).toNat + 2 by omega]
      rw [if_neg (show ¬ ((Lib.indexAny (L.drop 1) [60, 62]).toNat + 2 = 0) by omega)]

theorem endF_shift : ∀ (l : List UInt8) (n m : Nat), endF l (n + m) = if endF l n = 0 then 0 else endF l n + m
  | [], n, m => by simp [endF]
  | b :: l, n, m => by
    unfold endF
    split
    · simp
    · split
      · simp; omega
      · rw [show n + m + 1 = (n + 1) + m by omega, endF_shift l (n + 1) m]

theorem endF_le : ∀ (l : List UInt8) (n : Nat), endF l n ≤ n + l.length
  | [], n => by simp [endF]
  | b :: l, n => by
    unfold endF
    have := endF_le l (n + 1)
    simp only [List.length_cons]
    split
    · omega
    · split <;> omega
end Go.Proofs.YtaipifjmkbcjjaaDoor
