/- Plain words: the program's look at the next sixteen bytes finds what the reference's look at all of them finds. -/
import Derived.Test.YtaipifjmkbcjjaaDoorFd
import Derived.Test.YtaipifjmkbcjjaaDoorYd
namespace Go.Proofs.YtaipifjmkbcjjaaDoor

/-- The frame at the beginning of a stream, as the reference looks for it. -/
def oneR (L : List UInt8) : Fr × Nat :=
  if L.getD 0 0 ≠ 60 then (fr0, 1)
  else if Lib.indexAny (L.drop 1) [60, 62] < 0 then (fr0, 1)
  else if (L.drop 1).getD (Lib.indexAny (L.drop 1) [60, 62]).toNat 0 ≠ 62 then (fr0, 1)
  else if (decS (L.take ((Lib.indexAny (L.drop 1) [60, 62]).toNat + 2))).er ≠ 0 then (fr0, 1)
  else (let d := decS (L.take ((Lib.indexAny (L.drop 1) [60, 62]).toNat + 2)); (⟨d.t, d.k, d.a, d.b⟩, (Lib.indexAny (L.drop 1) [60, 62]).toNat + 2))

theorem indexAny_take (c : List UInt8) (n : Nat) : ∀ l : List UInt8, Lib.indexAny (l.take n) c = if Lib.indexAny l c < n then Lib.indexAny l c else -1 := by
  induction n with
  | zero =>
    intro l
    rw [List.take_zero]
    have := Lib.indexAny_ge c l
    split
    · simp [Lib.indexAny]; omega
    · rfl
  | succ n ih =>
    intro l
    cases l with
    | nil => simp only [Lib.indexAny, List.take_nil]; exact (ite_self _).symm
    | cons b l =>
      rw [List.take_succ_cons]
      have hg := Lib.indexAny_ge c l
      unfold Lib.indexAny
      rw [ih l]
      generalize Lib.indexAny l c = x at *
      by_cases hc : c.contains b = true
      · rw [if_pos hc, if_pos hc, if_pos (by push_cast; omega)]
      · rw [if_neg hc, if_neg hc]
        have e1 : (x == -1) = decide (x = -1) := rfl
        have e2 : ((if x < (n : Int) then x else -1) == -1) = decide ((if x < (n : Int) then x else -1) = -1) := rfl
        rw [e1, e2]
        simp only [decide_eq_true_eq]
        push_cast
        repeat' split
        all_goals omega

theorem oneS_R (L : List UInt8) (h0 : 0 < L.length) : oneS L = oneR L := by
  unfold oneS oneR
  by_cases h1 : L.getD 0 0 ≠ 60
  · rw [if_pos h1, if_pos h1]
  rw [if_neg h1, if_neg h1]
  have ht : Lib.indexAny (nearS L) [60, 62] = if Lib.indexAny (L.drop 1) [60, 62] < (16 : Nat) then Lib.indexAny (L.drop 1) [60, 62] else -1 := indexAny_take _ _ _
  have hlt := indexAny_lt (L.drop 1) [60, 62]
  have hge := Lib.indexAny_ge [60, 62] (L.drop 1)
  rw [ht]
  generalize he : Lib.indexAny (L.drop 1) [60, 62] = e at *
  by_cases h2 : e < (16 : Nat)
  · rw [if_pos h2]
    by_cases h3 : e < 0
    · rw [if_pos h3, if_pos h3]
    · rw [if_neg h3, if_neg h3]
      have hn : (nearS L).getD e.toNat 0 = (L.drop 1).getD e.toNat 0 := by
        unfold nearS
        exact getD_take (by omega)
      rw [hn]
  · rw [if_neg h2, if_pos (by decide)]
    have h3 : ¬ e < 0 := by omega
    rw [if_neg h3]
    split
    · rfl
    · rw [if_pos]
      have hl : 16 < (L.take (e.toNat + 2)).length := by
        rw [List.length_take]; rw [List.length_drop] at hlt; omega
      rw [decS, if_pos hl]; decide
end Go.Proofs.YtaipifjmkbcjjaaDoor
