/- Plain words: what is read of a text with a byte beyond the letters is what is read of its beginning. -/
import Derived.Test.YtaipifjmkbcjjaaDoorY
namespace Go.Proofs.YtaipifjmkbcjjaaDoor

section
variable {L : List UInt8} {i : Nat}

theorem ix_beyond {of : List UInt8} (hof : ∀ c ∈ of, c.toNat ≤ 126) {x : UInt8} (hx : 126 < x.toNat) : ixI of (bn x) 0 < 0 := by
  rcases ixI_get of x 0 with h | ⟨j, h1, _, h3⟩
  · omega
  · have hm : of.getD j 0 ∈ of := by
      rw [List.getD_eq_getElem?_getD, List.getElem?_eq_getElem h1]; exact List.getElem_mem h1
    have := hof _ hm
    rw [h3] at this; omega

theorem getD_take {p : Nat} (hp : p < i) : (L.take i).getD p 0 = L.getD p 0 := by
  simp [List.getD_eq_getElem?_getD, hp]

theorem rdS_take (hi : i < L.length) (hx : 126 < (L.getD i 0).toNat) {of : List UInt8} (hof : ∀ c ∈ of, c.toNat ≤ 126) {p : Nat} (hp : p ≤ i) (ok : Bool) :
    rdS (L.take i) of p ok = rdS L of p ok ∧ (rdS L of p ok).2.1 ≤ i := by
  have hl : (L.take i).length = i := by rw [List.length_take]; omega
  cases ok with
  | false => unfold rdS; simp; exact hp
  | true =>
    rcases Nat.lt_or_ge p i with h | h
    · unfold rdS
      have c1 : ¬ (true = false ∨ i ≤ p) := by simp; omega
      have c2 : ¬ (true = false ∨ L.length ≤ p) := by simp; omega
      rw [hl, getD_take h, if_neg c1, if_neg c2]
      split
      · exact ⟨rfl, hp⟩
      · exact ⟨rfl, by show p + 1 ≤ i; omega⟩
    · have : p = i := by omega
      subst this
      unfold rdS
      have c2 : ¬ (true = false ∨ L.length ≤ p) := by simp; omega
      rw [hl, if_pos (.inr (Nat.le_refl _)), if_neg c2, if_pos (ix_beyond hof hx)]
      exact ⟨rfl, Nat.le_refl _⟩

theorem dig_low : ∀ c ∈ digL, c.toNat ≤ 126 := by decide

theorem moreS_take (hi : i < L.length) (hx : 126 < (L.getD i 0).toNat) {p : Nat} (hp : p ≤ i) (ok : Bool) : moreS (L.take i) p ok = moreS L p ok := by
  have hl : (L.take i).length = i := by rw [List.length_take]; omega
  unfold moreS
  rw [hl]
  rcases Nat.lt_or_ge p i with h | h
  · rw [getD_take h]
    have h1 : decide (p < i) = true := by simpa using h
    have h2 : decide (p < L.length) = true := by simp; omega
    rw [h1, h2]
  · have : p = i := by omega
    subst this
    have hd : isDig (L.getD p 0) = false := by
      have h : ∀ n : Fin 256, 126 < n.val → isDig (UInt8.ofNat n.val) = false := by decide +kernel
      have := h ⟨(L.getD p 0).toNat, (L.getD p 0).toNat_lt⟩ hx
      simpa using this
    rw [hd]; simp

theorem numS_take (hi : i < L.length) (hx : 126 < (L.getD i 0).toNat) {p : Nat} (hp : p ≤ i) (ok : Bool) :
    numS (L.take i) p ok = numS L p ok ∧ (numS L p ok).2.1 ≤ i := by
  obtain ⟨h1, h2⟩ := rdS_take hi hx dig_low hp ok
  obtain ⟨h3, h4⟩ := rdS_take hi hx dig_low h2 (rdS L digL p ok).2.2
  unfold numS
  simp only []
  rw [h1, moreS_take hi hx h2, h3]
  refine ⟨rfl, ?_⟩
  split
  · exact h4
  · exact h2

theorem dR_take (hi : i < L.length) (hx : 126 < (L.getD i 0).toNat) :
    dR1 (L.take i) = dR1 L ∧ dR2 (L.take i) = dR2 L ∧ dR3 (L.take i) = dR3 L ∧ dR5 (L.take i) = dR5 L ∧ dR6 (L.take i) = dR6 L ∧ dR9 (L.take i) = dR9 L ∧ (dR9 L).2.1 ≤ i := by
  have l0 : ∀ c ∈ ([60] : List UInt8), c.toNat ≤ 126 := by decide
  have l1 : ∀ c ∈ ([80, 83, 68] : List UInt8), c.toNat ≤ 126 := by decide
  have l2 : ∀ c ∈ ([104, 99, 107, 109] : List UInt8), c.toNat ≤ 126 := by decide
  have l4 : ∀ c ∈ ([44] : List UInt8), c.toNat ≤ 126 := by decide
  have l6 : ∀ c ∈ ([59] : List UInt8), c.toNat ≤ 126 := by decide
  have l7 : ∀ c ∈ hexL, c.toNat ≤ 126 := by decide
  have l9 : ∀ c ∈ ([62] : List UInt8), c.toNat ≤ 126 := by decide
  obtain ⟨e0, b0⟩ := rdS_take hi hx l0 (Nat.zero_le i) true
  have r0 : dR0 (L.take i) = dR0 L := e0
  obtain ⟨e1, b1⟩ := rdS_take hi hx l1 (p := (dR0 L).2.1) b0 (dR0 L).2.2
  have r1 : dR1 (L.take i) = dR1 L := by unfold dR1; rw [r0]; exact e1
  obtain ⟨e2, b2⟩ := rdS_take hi hx l2 (p := (dR1 L).2.1) b1 (dR1 L).2.2
  have r2 : dR2 (L.take i) = dR2 L := by unfold dR2; rw [r1]; exact e2
  obtain ⟨e3, b3⟩ := numS_take hi hx (p := (dR2 L).2.1) b2 (dR2 L).2.2
  have r3 : dR3 (L.take i) = dR3 L := by unfold dR3; rw [r2]; exact e3
  obtain ⟨e4, b4⟩ := rdS_take hi hx l4 (p := (dR3 L).2.1) b3 (dR3 L).2.2
  have r4 : dR4 (L.take i) = dR4 L := by unfold dR4; rw [r3]; exact e4
  obtain ⟨e5, b5⟩ := numS_take hi hx (p := (dR4 L).2.1) b4 (dR4 L).2.2
  have r5 : dR5 (L.take i) = dR5 L := by unfold dR5; rw [r4]; exact e5
  obtain ⟨e6, b6⟩ := rdS_take hi hx l6 (p := (dR5 L).2.1) b5 (dR5 L).2.2
  have r6 : dR6 (L.take i) = dR6 L := by unfold dR6; rw [r5]; exact e6
  obtain ⟨e7, b7⟩ := rdS_take hi hx l7 (p := (dR6 L).2.1) b6 (dR6 L).2.2
  have r7 : dR7 (L.take i) = dR7 L := by unfold dR7; rw [r6]; exact e7
  obtain ⟨e8, b8⟩ := rdS_take hi hx l7 (p := (dR7 L).2.1) b7 (dR7 L).2.2
  have r8 : dR8 (L.take i) = dR8 L := by unfold dR8; rw [r7]; exact e8
  obtain ⟨e9, b9⟩ := rdS_take hi hx l9 (p := (dR8 L).2.1) b8 (dR8 L).2.2
  have r9 : dR9 (L.take i) = dR9 L := by unfold dR9; rw [r8]; exact e9
  exact ⟨r1, r2, r3, r5, r6, r9, b9⟩
end

theorem decS_decA (L : List UInt8) (hl : L.length ≤ 16) : decS L = decA L := by
  unfold decS
  rw [if_neg (by omega)]
  cases hf : L.findIdx? (fun c => decide (126 < c.toNat)) with
  | none => rfl
  | some i =>
    show bey (decA (L.take i)) i = decA L
    rw [List.findIdx?_eq_some_iff_getElem] at hf
    obtain ⟨hi, h2, -⟩ := hf
    have hx : 126 < (L.getD i 0).toNat := by
      rw [List.getD_eq_getElem?_getD, List.getElem?_eq_getElem hi]; simpa using h2
    obtain ⟨r1, r2, r3, r5, r6, r9, b9⟩ := dR_take hi hx
    have hlt : (L.take i).length = i := by rw [List.length_take]; omega
    cases h9 : (dR9 L).2.2 with
    | false =>
      have e1 : decA (L.take i) = ⟨0, 0, 0, 0, 3, (dR9 L).2.1⟩ := by rw [decA, r9, if_pos h9]
      have e2 : decA L = ⟨0, 0, 0, 0, 3, (dR9 L).2.1⟩ := by rw [decA, if_pos h9]
      rw [e1, e2]; rfl
    | true =>
      obtain ⟨g1, g2, g3⟩ := dR9_ok h9
      have hd : ((L.take i).drop (dR6 L).2.1).take 2 = (L.drop (dR6 L).2.1).take 2 := by
        rw [List.drop_take, List.take_take]; congr 1; omega
      have hp : ((L.take i).drop 1).take ((dR6 L).2.1 - 1) = (L.drop 1).take ((dR6 L).2.1 - 1) := by
        rw [List.drop_take, List.take_take]; congr 1; omega
      by_cases hs : (L.drop (dR6 L).2.1).take 2 ≠ hexS (crc ((L.drop 1).take ((dR6 L).2.1 - 1)))
      · have e1 : decA (L.take i) = ⟨0, 0, 0, 0, 10, (dR6 L).2.1⟩ := by
          have := decA_sum (L := L.take i) (by rw [r9]; exact h9) (by rw [r6, hd, hp]; exact hs)
          rw [r6] at this; exact this
        rw [e1, decA_sum h9 hs]; rfl
      · have e2 : decA L = ⟨0, 0, 0, 0, 3, (dR9 L).2.1⟩ := decA_long h9 hs (by omega)
        rw [e2]
        by_cases hlong : (dR9 L).2.1 < i
        · have e1 : decA (L.take i) = ⟨0, 0, 0, 0, 3, (dR9 L).2.1⟩ := by
            have := decA_long (L := L.take i) (by rw [r9]; exact h9) (by rw [r6, hd, hp]; exact hs) (by rw [r9, hlt]; exact hlong)
            rw [r9] at this; exact this
          rw [e1]; rfl
        · have hei : (dR9 L).2.1 = i := by omega
          have e1 := decA_good (L := L.take i) (by rw [r9]; exact h9) (by rw [r6, hd, hp]; exact hs) (by rw [r9, hlt]; exact hlong)
          rw [e1, hei]; rfl
end Go.Proofs.YtaipifjmkbcjjaaDoor
