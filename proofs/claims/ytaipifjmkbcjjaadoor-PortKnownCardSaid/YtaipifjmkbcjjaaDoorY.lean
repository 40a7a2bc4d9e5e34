/- Plain words: a text that is read without a fault is the form of what was read, and back. -/
import Derived.Test.YtaipifjmkbcjjaaDoorL
namespace Go.Proofs.YtaipifjmkbcjjaaDoor

theorem bn_inj {a b : UInt8} (h : bn a = bn b) : a = b := by
  unfold bn at h
  exact UInt8.toNat_inj.1 (by omega)

theorem ixI_get (l : List UInt8) (c : UInt8) : ∀ i : Int, ixI l (bn c) i = -1 ∨ ∃ j : Nat, j < l.length ∧ ixI l (bn c) i = i + j ∧ l.getD j 0 = c := by
  induction l with
  | nil => intro i; left; rfl
  | cons d l ih =>
    intro i
    simp only [ixI, List.length_cons]
    split
    · rename_i h
      right; exact ⟨0, by omega, by omega, by simpa using bn_inj h⟩
    · rcases ih (i + 1) with h | ⟨j, h1, h2, h3⟩
      · left; exact h
      · right; exact ⟨j + 1, by omega, by omega, by simpa using h3⟩

theorem drop_cons {s : List UInt8} {p : Nat} (h : p < s.length) : s.drop p = s.getD p 0 :: s.drop (p + 1) := by
  rw [List.drop_eq_getElem_cons h]; simp [List.getD_eq_getElem?_getD, List.getElem?_eq_getElem h]

/-- One letter, read. -/
theorem rd_step {s of : List UInt8} {p : Nat} {ok : Bool} (h : (rdS s of p ok).2.2 = true) :
    ok = true ∧ (rdS s of p ok).2.1 = p + 1 ∧ p < s.length ∧ ∃ j : Nat, j < of.length ∧ (rdS s of p ok).1 = j ∧ s.drop p = of.getD j 0 :: s.drop (p + 1) := by
  obtain ⟨h1, h2, h3⟩ := rdS_ok h
  refine ⟨h1, h3, h2, ?_⟩
  have hd := drop_cons h2
  unfold rdS at h ⊢
  subst h1
  rw [if_neg (by simp; omega)] at h ⊢
  split at h
  · simp at h
  · rename_i hn
    rw [if_neg hn]
    rcases ixI_get of (s.getD p 0) 0 with h' | ⟨j, g1, g2, g3⟩
    · omega
    · exact ⟨j, g1, by simpa using g2, by rw [g3]; exact hd⟩

theorem dig_eq (j : Nat) (h : j < 10) : digL.getD j 0 = UInt8.ofNat (48 + j) := by
  have : ∀ j : Fin 10, digL.getD j.val 0 = UInt8.ofNat (48 + j.val) := by decide
  exact this ⟨j, h⟩

/-- A number, read. -/
theorem num_step {s : List UInt8} {p : Nat} {ok : Bool} (h : (numS s p ok).2.2 = true) :
    ok = true ∧ ∃ n : Nat, n ≤ 99 ∧ (numS s p ok).1 = n ∧ (numS s p ok).2.1 ≤ s.length ∧ s.drop p = digs n ++ s.drop (numS s p ok).2.1 := by
  obtain ⟨ho, _, hle⟩ := numS_ok h
  unfold numS at h hle ⊢
  simp only [] at h hle ⊢
  split at h
  · rename_i hc
    simp only [if_pos hc] at h hle ⊢
    obtain ⟨k1, k2, k3, i, k4, k5, k6⟩ := rd_step h
    obtain ⟨g1, g2, g3, j, g4, g5, g6⟩ := rd_step k1
    simp only [List.length_cons, List.length_nil] at k4 g4
    refine ⟨g1, 10 * j + i, by omega, by rw [g5, k5]; omega, hle, ?_⟩
    have hj : 0 < j := by have := hc.1; omega
    rw [← g2] at g6
    rw [g6, k6, k2, dig_eq i (by omega), dig_eq j (by omega)]
    unfold digs
    rw [if_neg (by omega), show (10 * j + i) / 10 = j by omega, show (10 * j + i) % 10 = i by omega]
    rfl
  · rename_i hc
    simp only [if_neg hc] at h hle ⊢
    obtain ⟨g1, g2, g3, j, g4, g5, g6⟩ := rd_step h
    simp only [List.length_cons, List.length_nil] at g4
    refine ⟨g1, j, by omega, g5, hle, ?_⟩
    rw [g6, g2, dig_eq j (by omega)]
    unfold digs
    rw [if_pos (by omega)]
    rfl

theorem chain {a b c : List UInt8} {x : UInt8} (h : a = x :: b) (k : b = c) : a = x :: c := by rw [h, k]

/-- What is read without a fault is a form. -/
theorem decA_form {L : List UInt8} (h : (decA L).er = 0) : L = form (decA L).t (decA L).k (decA L).a (decA L).b ∧ chk (decA L).t (decA L).k (decA L).a (decA L).b = 0 := by
  cases h9 : (dR9 L).2.2 with
  | false => rw [decA, if_pos h9] at h; simp at h
  | true =>
  by_cases hx : (L.drop (dR6 L).2.1).take 2 ≠ hexS (crc ((L.drop 1).take ((dR6 L).2.1 - 1)))
  · rw [decA_sum h9 hx] at h; simp at h
  by_cases hl : (dR9 L).2.1 < L.length
  · rw [decA_long h9 hx hl] at h; simp at h
  rw [decA_good h9 hx hl]
  obtain ⟨h8, a9, -, j9, b9, -, d9⟩ := rd_step h9
  obtain ⟨h7, a8, -, j8, -, -, d8⟩ := rd_step h8
  obtain ⟨h6, a7, -, j7, -, -, d7⟩ := rd_step h7
  obtain ⟨h5, a6, l6, j6, b6, -, d6⟩ := rd_step h6
  obtain ⟨h4, nb, hb, vb, l5, d5⟩ := num_step h5
  obtain ⟨h3, a4, -, j4, b4, -, d4⟩ := rd_step h4
  obtain ⟨h2, na, ha, va, l3, d3⟩ := num_step h3
  obtain ⟨h1, a2, -, j2, b2, v2, d2⟩ := rd_step h2
  obtain ⟨h0, a1, -, j1, b1, v1, d1⟩ := rd_step h1
  obtain ⟨-, a0, -, j0, b0, -, d0⟩ := rd_step h0
  have e9 : (dR9 L).2.1 = (dR8 L).2.1 + 1 := a9
  have e8 : (dR8 L).2.1 = (dR7 L).2.1 + 1 := a8
  have e7 : (dR7 L).2.1 = (dR6 L).2.1 + 1 := a7
  have e6 : (dR6 L).2.1 = (dR5 L).2.1 + 1 := a6
  have e4 : (dR4 L).2.1 = (dR3 L).2.1 + 1 := a4
  have e2 : (dR2 L).2.1 = (dR1 L).2.1 + 1 := a2
  have e1 : (dR1 L).2.1 = (dR0 L).2.1 + 1 := a1
  have e0 : (dR0 L).2.1 = 0 + 1 := a0
  change (dR5 L).2.1 < L.length at l6
  change L.drop (dR8 L).2.1 = _ at d9
  change L.drop (dR7 L).2.1 = _ at d8
  change L.drop (dR6 L).2.1 = _ at d7
  change L.drop (dR5 L).2.1 = _ at d6
  change L.drop (dR4 L).2.1 = digs nb ++ L.drop (dR5 L).2.1 at d5
  change L.drop (dR3 L).2.1 = _ at d4
  change L.drop (dR2 L).2.1 = digs na ++ L.drop (dR3 L).2.1 at d3
  change L.drop (dR1 L).2.1 = _ at d2
  change L.drop (dR0 L).2.1 = _ at d1
  change (dR5 L).1 = _ at vb
  change (dR3 L).1 = _ at va
  change (dR2 L).1 = _ at v2
  change (dR1 L).1 = _ at v1
  simp only [List.length_cons, List.length_nil] at b9 b6 b4 b2 b1 b0
  have z9 : j9 = 0 := by omega
  have z6 : j6 = 0 := by omega
  have z4 : j4 = 0 := by omega
  have z0 : j0 = 0 := by omega
  subst z9 z6 z4 z0
  rw [← e9] at d9
  rw [← e8] at d8
  rw [← e7] at d7
  rw [← e6] at d6
  rw [← e4] at d4
  rw [← e2] at d2
  rw [← e1] at d1
  rw [← e0] at d0
  have dend : L.drop (dR9 L).2.1 = [] := List.drop_eq_nil_of_le (by omega)
  rw [dend] at d9
  rw [d9] at d8
  rw [d8] at d7
  have ht : tagB (1 + (dR1 L).1) = [80, 83, 68].getD j1 0 := by rw [v1]; unfold tagB; congr 1; omega
  have hk : kindB (1 + (dR2 L).1) = [104, 99, 107, 109].getD j2 0 := by rw [v2]; unfold kindB; congr 1; omega
  have hP : L.drop 1 = pay (1 + (dR1 L).1) (1 + (dR2 L).1) (dR3 L).1 (dR5 L).1 ++ L.drop (dR6 L).2.1 := by
    have : (1 : Nat) = (dR0 L).2.1 := by omega
    rw [this, d1, d2, d3, d4, d5, d6]
    unfold pay
    rw [ht, hk, va, vb]
    simp
  have hlen : (dR6 L).2.1 - 1 = (pay (1 + (dR1 L).1) (1 + (dR2 L).1) (dR3 L).1 (dR5 L).1).length := by
    have h1 := congrArg List.length hP
    simp only [List.length_drop, List.length_append] at h1
    omega
  have htake : (L.drop 1).take ((dR6 L).2.1 - 1) = pay (1 + (dR1 L).1) (1 + (dR2 L).1) (dR3 L).1 (dR5 L).1 := by
    rw [hP, hlen, List.take_left]
  simp only [ne_eq, Decidable.not_not] at hx
  rw [htake, d7] at hx
  refine ⟨?_, ?_⟩
  · have d00 : L = 60 :: L.drop 1 := by
      have : (1 : Nat) = (dR0 L).2.1 := by omega
      rw [this]; simpa using d0
    show L = form (1 + (dR1 L).1) (1 + (dR2 L).1) (dR3 L).1 (dR5 L).1
    exact d00.trans (by rw [hP, d7, form, ← hx]; simp)
  · show chk (1 + (dR1 L).1) (1 + (dR2 L).1) (dR3 L).1 (dR5 L).1 = 0
    rw [v1, v2, va, vb]
    exact chk_mk (by omega)

theorem decS_form {L : List UInt8} (h : (decS L).er = 0) : L = form (decS L).t (decS L).k (decS L).a (decS L).b ∧ chk (decS L).t (decS L).k (decS L).a (decS L).b = 0 := by
  have e : decS L = decA L := by
    unfold decS at h ⊢
    split at h
    · simp at h
    · rename_i hl
      rw [if_neg hl]
      split at h
      · rename_i hn; first | rfl | rw [hn]
      · unfold bey at h
        simp only [] at h
        split at h
        · simp at h
        · contradiction
  rw [e] at h ⊢
  exact decA_form h

/-! A form, read. -/
theorem rd_mk {s of t : List UInt8} {p : Nat} {c : UInt8} {j : Nat} (h : s.drop p = c :: t) (hj : ixI of (bn c) 0 = j) : rdS s of p true = ((j : Int), p + 1, true) ∧ s.drop (p + 1) = t := by
  have hp : p < s.length := by
    rcases Nat.lt_or_ge p s.length with h' | h'
    · exact h'
    · rw [List.drop_eq_nil_of_le h'] at h; simp at h
  have hd := drop_cons hp
  rw [h] at hd
  simp only [List.cons.injEq] at hd
  refine ⟨?_, hd.2.symm⟩
  unfold rdS
  rw [if_neg (by simp; omega), ← hd.1, hj, if_neg (by omega)]

theorem ix_dig (j : Nat) (h : j < 10) : ixI digL (bn (UInt8.ofNat (48 + j))) 0 = j := by
  have : ∀ j : Fin 10, ixI digL (bn (UInt8.ofNat (48 + j.val))) 0 = (j.val : Int) := by decide
  exact this ⟨j, h⟩
theorem isDig_dig (j : Nat) (h : j < 10) : isDig (UInt8.ofNat (48 + j)) = true := by
  have : ∀ j : Fin 10, isDig (UInt8.ofNat (48 + j.val)) = true := by decide
  exact this ⟨j, h⟩

theorem num_mk {s t : List UInt8} {p n : Nat} {c : UInt8} (h : s.drop p = digs n ++ c :: t) (hn : n ≤ 99) (hc : isDig c = false) : numS s p true = ((n : Int), p + (digs n).length, true) ∧ s.drop (p + (digs n).length) = c :: t := by
  unfold digs at h ⊢
  have more : ∀ q d u, s.drop q = d :: u → moreS s q true = isDig d := by
    intro q d u hq
    have hp : q < s.length := by
      rcases Nat.lt_or_ge q s.length with h' | h'
      · exact h'
      · rw [List.drop_eq_nil_of_le h'] at hq; simp at hq
    have hd := drop_cons hp
    rw [hq] at hd
    simp only [List.cons.injEq] at hd
    unfold moreS
    rw [← hd.1]
    simp [hp]
  split at h
  · rename_i hlt
    rw [if_pos hlt]
    obtain ⟨h1, h2⟩ := rd_mk (of := digL) (j := n) h (ix_dig n hlt)
    refine ⟨?_, h2⟩
    unfold numS
    rw [h1]
    simp only []
    rw [more _ _ _ h2, hc, if_neg (by simp)]
    rfl
  · rename_i hlt
    rw [if_neg hlt]
    obtain ⟨h1, h2⟩ := rd_mk (of := digL) (j := n / 10) h (ix_dig _ (by omega))
    obtain ⟨h3, h4⟩ := rd_mk (of := digL) (j := n % 10) h2 (ix_dig _ (by omega))
    refine ⟨?_, h4⟩
    unfold numS
    rw [h1]
    simp only []
    rw [more _ _ _ h2, isDig_dig _ (by omega), if_pos ⟨by omega, rfl⟩, h3]
    simp only [Prod.mk.injEq, and_true]
    refine ⟨by omega, rfl⟩

theorem ix_tag (t : Int) (h1 : 1 ≤ t) (h2 : t ≤ 3) : ixI [80, 83, 68] (bn (tagB t)) 0 = ((t - 1).toNat : Nat) := by
  obtain rfl | rfl | rfl : t = 1 ∨ t = 2 ∨ t = 3 := by omega
  all_goals decide
theorem ix_kind (t : Int) (h1 : 1 ≤ t) (h2 : t ≤ 4) : ixI [104, 99, 107, 109] (bn (kindB t)) 0 = ((t - 1).toNat : Nat) := by
  obtain rfl | rfl | rfl | rfl : t = 1 ∨ t = 2 ∨ t = 3 ∨ t = 4 := by omega
  all_goals decide
theorem ix_hex (n : Nat) (h : n < 16) : ixI hexL (bn (hexd n)) 0 = n := by
  have : ∀ n : Fin 16, ixI hexL (bn (hexd n.val)) 0 = (n.val : Int) := by decide
  exact this ⟨n, h⟩
theorem hexd_asc (n : Nat) : (hexd n).toNat ≤ 126 := by
  rcases Nat.lt_or_ge n 16 with h | h
  · have : ∀ n : Fin 16, (hexd n.val).toNat ≤ 126 := by decide
    exact this ⟨n, h⟩
  · unfold hexd; rw [List.getD_eq_getElem?_getD, List.getElem?_eq_none (by simpa using h)]; decide
theorem digs_asc (n : Nat) (hn : n ≤ 99) : ∀ c ∈ digs n, c.toNat ≤ 126 := by
  have dg : ∀ j, j < 10 → (UInt8.ofNat (48 + j)).toNat ≤ 126 := fun j hj => by
    have : ∀ j : Fin 10, (UInt8.ofNat (48 + j.val)).toNat ≤ 126 := by decide
    exact this ⟨j, hj⟩
  intro c hc
  unfold digs at hc
  split at hc
  · simp only [List.mem_singleton] at hc; subst hc; exact dg n (by omega)
  · simp only [List.mem_cons, List.not_mem_nil, or_false] at hc
    rcases hc with rfl | rfl
    · exact dg _ (by omega)
    · exact dg _ (by omega)
theorem tag_asc (t : Int) : (tagB t).toNat ≤ 126 := by
  unfold tagB
  generalize (t - 1).toNat = n
  rcases n with _ | _ | _ | n <;> simp
theorem kind_asc (t : Int) : (kindB t).toNat ≤ 126 := by
  unfold kindB
  generalize (t - 1).toNat = n
  rcases n with _ | _ | _ | _ | n <;> simp
theorem form_asc {t k a b : Int} (h : chk t k a b = 0) : ∀ c ∈ form t k a b, c.toNat ≤ 126 := by
  obtain ⟨_, _, _, _, _, ha, _, hb⟩ := chk_ok h
  intro c hc
  unfold form pay hexS at hc
  simp only [List.mem_cons, List.mem_append, List.not_mem_nil, or_false] at hc
  rcases hc with rfl | (rfl | rfl | hc | rfl | hc | rfl) | (rfl | rfl) | rfl
  · decide
  · exact tag_asc _
  · exact kind_asc _
  · exact digs_asc _ (by omega) _ hc
  · decide
  · exact digs_asc _ (by omega) _ hc
  · decide
  · exact hexd_asc _
  · exact hexd_asc _
  · decide

theorem form_dec {t k a b : Int} (h : chk t k a b = 0) : decS (form t k a b) = ⟨t, k, a, b, 0, 0⟩ := by
  obtain ⟨ht1, ht2, hk1, hk2, ha1, ha2, hb1, hb2⟩ := chk_ok h
  have hl := form_len t k a b
  have hp := pay_len t k a b
  have hf : (form t k a b).findIdx? (fun c => decide (126 < c.toNat)) = none := by
    rw [List.findIdx?_eq_none_iff]
    intro c hc
    have := form_asc h c hc
    simp; omega
  unfold decS
  rw [if_neg (by omega), hf]
  show decA (form t k a b) = _
  obtain ⟨L, hL⟩ : ∃ L, form t k a b = L := ⟨_, rfl⟩
  have hP : L = 60 :: (pay t k a b ++ (hexS (crc (pay t k a b)) ++ [62])) := hL.symm
  have hs : (L.drop 1) = pay t k a b ++ (hexS (crc (pay t k a b)) ++ [62]) := by rw [hP]; rfl
  rw [hL] at hl ⊢
  have d0 : L.drop 0 = 60 :: (tagB t :: (kindB k :: (digs a.toNat ++ 44 :: (digs b.toNat ++ 59 :: (hexS (crc (pay t k a b)) ++ [62]))))) := by
    rw [hP]; show 60 :: (pay t k a b ++ _) = _; conv => lhs; unfold pay
    simp [pay]
  obtain ⟨r0, e0⟩ := rd_mk (of := [60]) (j := 0) d0 (by decide)
  have h0 : dR0 L = (0, 0 + 1, true) := r0
  obtain ⟨r1, e1⟩ := rd_mk e0 (ix_tag t ht1 ht2)
  have h1 : dR1 L = ((((t - 1).toNat : Nat) : Int), 0 + 1 + 1, true) := by unfold dR1; rw [h0]; exact r1
  obtain ⟨r2, e2⟩ := rd_mk e1 (ix_kind k hk1 hk2)
  have h2 : dR2 L = ((((k - 1).toNat : Nat) : Int), 0 + 1 + 1 + 1, true) := by unfold dR2; rw [h1]; exact r2
  obtain ⟨r3, e3⟩ := num_mk e2 (by omega) (by decide)
  have h3 : dR3 L = (((a.toNat : Nat) : Int), 0 + 1 + 1 + 1 + (digs a.toNat).length, true) := by unfold dR3; rw [h2]; exact r3
  obtain ⟨r4, e4⟩ := rd_mk (of := [44]) (j := 0) e3 (by decide)
  have h4 : dR4 L = (0, 0 + 1 + 1 + 1 + (digs a.toNat).length + 1, true) := by unfold dR4; rw [h3]; exact r4
  obtain ⟨r5, e5⟩ := num_mk e4 (by omega) (by decide)
  have h5 : dR5 L = (((b.toNat : Nat) : Int), 0 + 1 + 1 + 1 + (digs a.toNat).length + 1 + (digs b.toNat).length, true) := by unfold dR5; rw [h4]; exact r5
  obtain ⟨r6, e6⟩ := rd_mk (of := [59]) (j := 0) e5 (by decide)
  have h6 : dR6 L = (0, 0 + 1 + 1 + 1 + (digs a.toNat).length + 1 + (digs b.toNat).length + 1, true) := by unfold dR6; rw [h5]; exact r6
  have hpl : (pay t k a b).length = (digs a.toNat).length + (digs b.toNat).length + 4 := by simp [pay]; omega
  have h6' : (dR6 L).2.1 = (pay t k a b).length + 1 := by rw [h6, hpl]; simp only []; omega
  have e6' : L.drop (dR6 L).2.1 = hexS (crc (pay t k a b)) ++ [62] := by rw [h6]; exact e6
  have hb8 := (crc (pay t k a b)).toNat_lt
  unfold hexS at e6
  simp only [List.cons_append, List.nil_append] at e6
  obtain ⟨r7, e7⟩ := rd_mk e6 (ix_hex _ (by omega))
  have h7 : dR7 L = rdS L hexL (dR6 L).2.1 (dR6 L).2.2 := rfl
  rw [h6] at h7
  replace h7 := h7.trans r7
  obtain ⟨r8, e8⟩ := rd_mk e7 (ix_hex _ (by omega))
  have h8 : dR8 L = rdS L hexL (dR7 L).2.1 (dR7 L).2.2 := rfl
  rw [h7] at h8
  replace h8 := h8.trans r8
  obtain ⟨r9, e9⟩ := rd_mk (of := [62]) (j := 0) e8 (by decide)
  have h9 : dR9 L = rdS L [62] (dR8 L).2.1 (dR8 L).2.2 := rfl
  rw [h8] at h9
  replace h9 := h9.trans r9
  have htake : (L.drop 1).take ((dR6 L).2.1 - 1) = pay t k a b := by
    rw [hs, h6', Nat.add_sub_cancel, List.take_left]
  rw [decA_good (by rw [h9]) (by
    rw [htake, e6']; simp [hexS]) (by rw [h9]; simp only []; omega)]
  rw [h1, h2, h3, h5]
  simp only [DecR.mk.injEq, and_true]
  refine ⟨by omega, by omega, by omega, by omega⟩

theorem hexS_inj {a b : UInt8} (h : hexS a = hexS b) : a = b := by
  have inj : ∀ m n : Fin 16, hexd m.val = hexd n.val → m = n := by decide
  unfold hexS at h
  simp only [List.cons.injEq, and_true] at h
  have ha := a.toNat_lt
  have hb := b.toNat_lt
  have h1 := inj ⟨a.toNat / 16, by omega⟩ ⟨b.toNat / 16, by omega⟩ h.1
  have h2 := inj ⟨a.toNat % 16, by omega⟩ ⟨b.toNat % 16, by omega⟩ h.2
  simp only [Fin.mk.injEq] at h1 h2
  exact UInt8.toNat_inj.1 (by omega)

/-- No form is another form with one byte changed. -/
theorem form_spoilt {t k a b t' k' a' b' : Int} {u v : List UInt8} {x y : UInt8} (h : form t k a b = u ++ x :: v) (h' : form t' k' a' b' = u ++ y :: v) : x = y := by
  have hl : (pay t k a b).length = (pay t' k' a' b').length := by
    have e1 := form_len t k a b
    have e2 := form_len t' k' a' b'
    rw [h] at e1; rw [h'] at e2
    simp at e1 e2; omega
  unfold form at h h'
  generalize pay t k a b = P at *
  generalize pay t' k' a' b' = P' at *
  cases u with
  | nil =>
    simp only [List.nil_append, List.cons.injEq] at h h'
    rw [← h.1, ← h'.1]
  | cons w u =>
    simp only [List.cons_append, List.cons.injEq] at h h'
    have h1 := h.2
    have h2 := h'.2
    rcases Nat.lt_or_ge u.length P.length with hlt | hge
    · have eP : P.take u.length = u := by
        have := congrArg (List.take u.length) h1
        rwa [List.take_append_of_le_length (by omega), List.take_left] at this
      have eP' : P'.take u.length = u := by
        have := congrArg (List.take u.length) h2
        rwa [List.take_append_of_le_length (by omega), List.take_left] at this
      have fP : P.drop u.length ++ (hexS (crc P) ++ [62]) = x :: v := by
        have := congrArg (List.drop u.length) h1
        rwa [List.drop_append_of_le_length (by omega), List.drop_left] at this
      have fP' : P'.drop u.length ++ (hexS (crc P') ++ [62]) = y :: v := by
        have := congrArg (List.drop u.length) h2
        rwa [List.drop_append_of_le_length (by omega), List.drop_left] at this
      cases hD : P.drop u.length with
      | nil => have := congrArg List.length hD; simp at this; omega
      | cons x1 v1 =>
        cases hD' : P'.drop u.length with
        | nil => have := congrArg List.length hD'; simp at this; omega
        | cons y1 v2 =>
          rw [hD] at fP
          rw [hD'] at fP'
          simp only [List.cons_append, List.cons.injEq] at fP fP'
          have hlv : v1.length = v2.length := by
            have a1 := congrArg List.length hD
            have a2 := congrArg List.length hD'
            simp at a1 a2; omega
          have hv := fP.2.trans fP'.2.symm
          obtain ⟨g1, g2⟩ := List.append_inj hv hlv
          have g3 := (List.append_inj g2 (by simp [hexS])).1
          have hc := hexS_inj g3
          have pp : P = u ++ x :: v1 := by rw [← List.take_append_drop u.length P, eP, hD, fP.1]
          have pp' : P' = u ++ y :: v1 := by rw [← List.take_append_drop u.length P', eP', hD', fP'.1, g1]
          rw [pp, pp'] at hc
          exact crc_spoilt hc
    · have eP : P = u.take P.length := by
        have := congrArg (List.take P.length) h1
        rwa [List.take_left, List.take_append_of_le_length (by omega)] at this
      have eP' : P' = u.take P.length := by
        have := congrArg (List.take P'.length) h2
        rwa [List.take_left, List.take_append_of_le_length (by omega), ← hl] at this
      have : P = P' := eP.trans eP'.symm
      subst this
      have := h1.symm.trans h2
      simpa using this
end Go.Proofs.YtaipifjmkbcjjaaDoor
