/- Plain words: a text that is read without a fault is the form of what was read, and back. -/
import Derived.Test.YtaipifjmkbcjjaaDoorZL
import Derived.Test.YtaipifjmkbcjjaaDoorZg0
import Derived.Test.YtaipifjmkbcjjaaDoorZg1
namespace Go.Proofs.YtaipifjmkbcjjaaDoor

theorem bn_inj {a b : UInt8} (h : bn a = bn b) : a = b := by
  unfold bn at h
  exact UInt8.toNat_inj.1 (by omega)

theorem ixI_get (l : List UInt8) (c : UInt8) : ∀ i : Int, ixI l (bn c) i = -1 ∨ ∃ j : Nat, j < l.length ∧ ixI l (bn c) i = i + j ∧ l.getD j 0 = c := by
  induction l with
  | nil => intro i; left; rfl
  | cons d l ih =>
    intro i
    simp only [ixI, List.length_cons]
    split
    · rename_i h
      right; exact ⟨0, by omega, by omega, by simpa using bn_inj h⟩
    · rcases ih (i + 1) with h | ⟨j, h1, h2, h3⟩
      · left; exact h
      · right; exact ⟨j + 1, by omega, by omega, by simpa using h3⟩

theorem drop_cons {s : List UInt8} {p : Nat} (h : p < s.length) : s.drop p = s.getD p 0 :: s.drop (p + 1) := by
  rw [List.drop_eq_getElem_cons h]; simp [List.getD_eq_getElem?_getD, List.getElem?_eq_getElem h]

/-- One letter, read. -/
theorem rd_step {s of : List UInt8} {p : Nat} {ok : Bool} (h : (rdS s of p ok).2.2 = true) :
    ok = true ∧ (rdS s of p ok).2.1 = p + 1 ∧ p < s.length ∧ ∃ j : Nat, j < of.length ∧ (rdS s of p ok).1 = j ∧ s.drop p = of.getD j 0 :: s.drop (p + 1) := by
  obtain ⟨h1, h2, h3⟩ := rdS_ok h
  refine ⟨h1, h3, h2, ?_⟩
  have hd := drop_cons h2
  unfold rdS at h ⊢
  subst h1
  rw [if_neg (by simp; omega)] at h ⊢
  split at h
  · simp at h
  · rename_i hn
    rw [if_neg hn]
    rcases ixI_get of (s.getD p 0) 0 with h' | ⟨j, g1, g2, g3⟩
    · omega
    · exact ⟨j, g1, by simpa using g2, by rw [g3]; exact hd⟩

theorem dig_eq (j : Nat) (h : j < 10) : digL.getD j 0 = UInt8.ofNat (48 + j) := by
  have : ∀ j : Fin 10, digL.getD j.val 0 = UInt8.ofNat (48 + j.val) := by decide
  exact this ⟨j, h⟩

/-- A number, read. -/
theorem num_step {s : List UInt8} {p : Nat} {ok : Bool} (h : (numS s p ok).2.2 = true) :
    ok = true ∧ ∃ n : Nat, n ≤ 99 ∧ (numS s p ok).1 = n ∧ (numS s p ok).2.1 ≤ s.length ∧ s.drop p = digs n ++ s.drop (numS s p ok).2.1 := by
  obtain ⟨ho, _, hle⟩ := numS_ok h
  unfold numS at h hle ⊢
  simp only [] at h hle ⊢
  split at h
  · rename_i hc
    simp only [if_pos hc] at h hle ⊢
    obtain ⟨k1, k2, k3, i, k4, k5, k6⟩ := rd_step h
    obtain ⟨g1, g2, g3, j, g4, g5, g6⟩ := rd_step k1
    simp only [List.length_cons, List.length_nil] at k4 g4
    refine ⟨g1, 10 * j + i, by omega, by rw [g5, k5]; omega, hle, ?_⟩
    have hj : 0 < j := by have := hc.1; omega
    rw [← g2] at g6
    rw [g6, k6, k2, dig_eq i (by omega), dig_eq j (by omega)]
    unfold digs
    rw [if_neg (by omega), show (10 * j + i) / 10 = j by omega, show (10 * j + i) % 10 = i by omega]
    rfl
  · rename_i hc
    simp only [if_neg hc] at h hle ⊢
    obtain ⟨g1, g2, g3, j, g4, g5, g6⟩ := rd_step h
    simp only [List.length_cons, List.length_nil] at g4
    refine ⟨g1, j, by omega, g5, hle, ?_⟩
    rw [g6, g2, dig_eq j (by omega)]
    unfold digs
    rw [if_pos (by omega)]
    rfl

theorem chain {a b c : List UInt8} {x : UInt8} (h : a = x :: b) (k : b = c) : a = x :: c := by rw [h, k]

/-- What is read without a fault is a form. -/
theorem decA_form {L : List UInt8} (h : (decA L).er = 0) : L = form (decA L).t (decA L).k (decA L).a (decA L).b ∧ chk (decA L).t (decA L).k (decA L).a (decA L).b = 0 := by
  cases h9 : (dR9 L).2.2 with
  | false => rw [decA, if_pos h9] at h; simp at h
  | true =>
  by_cases hx : (L.drop (dR6 L).2.1).take 2 ≠ hexS (crc ((L.drop 1).take ((dR6 L).2.1 - 1)))
  · rw [decA_sum h9 hx] at h; simp at h
  by_cases hl : (dR9 L).2.1 < L.length
  · rw [decA_long h9 hx hl] at h; simp at h
  rw [decA_good h9 hx hl]
  obtain ⟨h8, a9, -, j9, b9, -, d9⟩ := rd_step h9
  obtain ⟨h7, a8, -, j8, -, -, d8⟩ := rd_step h8
  obtain ⟨h6, a7, -, j7, -, -, d7⟩ := rd_step h7
  obtain ⟨h5, a6, l6, j6, b6, -, d6⟩ := rd_step h6
  obtain ⟨h4, nb, hb, vb, l5, d5⟩ := num_step h5
  obtain ⟨h3, a4, -, j4, b4, -, d4⟩ := rd_step h4
  obtain ⟨h2, na, ha, va, l3, d3⟩ := num_step h3
  obtain ⟨h1, a2, -, j2, b2, v2, d2⟩ := rd_step h2
  obtain ⟨h0, a1, -, j1, b1, v1, d1⟩ := rd_step h1
  obtain ⟨-, a0, -, j0, b0, -, d0⟩ := rd_step h0
  have e9 : (dR9 L).2.1 = (dR8 L).2.1 + 1 := a9
  have e8 : (dR8 L).2.1 = (dR7 L).2.1 + 1 := a8
  have e7 : (dR7 L).2.1 = (dR6 L).2.1 + 1 := a7
  have e6 : (dR6 L).2.1 = (dR5 L).2.1 + 1 := a6
  have e4 : (dR4 L).2.1 = (dR3 L).2.1 + 1 := a4
  have e2 : (dR2 L).2.1 = (dR1 L).2.1 + 1 := a2
  have e1 : (dR1 L).2.1 = (dR0 L).2.1 + 1 := a1
  have e0 : (dR0 L).2.1 = 0 + 1 := a0
  change (dR5 L).2.1 < L.length at l6
  change L.drop (dR8 L).2.1 = _ at d9
  change L.drop (dR7 L).2.1 = _ at d8
  change L.drop (dR6 L).2.1 = _ at d7
  change L.drop (dR5 L).2.1 = _ at d6
  change L.drop (dR4 L).2.1 = digs nb ++ L.drop (dR5 L).2.1 at d5
  change L.drop (dR3 L).2.1 = _ at d4
  change L.drop (dR2 L).2.1 = digs na ++ L.drop (dR3 L).2.1 at d3
  change L.drop (dR1 L).2.1 = _ at d2
  change L.drop (dR0 L).2.1 = _ at d1
  change (dR5 L).1 = _ at vb
  change (dR3 L).1 = _ at va
  change (dR2 L).1 = _ at v2
  change (dR1 L).1 = _ at v1
  simp only [List.length_cons, List.length_nil] at b9 b6 b4 b2 b1 b0
  have z9 : j9 = 0 := by omega
  have z6 : j6 = 0 := by omega
  have z4 : j4 = 0 := by omega
  have z0 : j0 = 0 := by omega
  subst z9 z6 z4 z0
  rw [← e9] at d9
  rw [← e8] at d8
  rw [← e7] at d7
  rw [← e6] at d6
  rw [← e4] at d4
  rw [← e2] at d2
  rw [← e1] at d1
  rw [← e0] at d0
  have dend : L.drop (dR9 L).2.1 = [] := List.drop_eq_nil_of_le (by omega)
  rw [dend] at d9
  rw [d9] at d8
  rw [d8] at d7
  have ht : tagB (1 + (dR1 L).1) = [80, 83, 68].getD j1 0 := by rw [v1]; unfold tagB; congr 1; omega
  have hk : kindB (1 + (dR2 L).1) = [104, 99, 107, 109].getD j2 0 := by rw [v2]; unfold kindB; congr 1; omega
  have hP : L.drop 1 = pay (1 + (dR1 L).1) (1 + (dR2 L).1) (dR3 L).1 (dR5 L).1 ++ L.drop (dR6 L).2.1 := by
    have : (1 : Nat) = (dR0 L).2.1 := by omega
    rw [this, d1, d2, d3, d4, d5, d6]
    unfold pay
    rw [ht, hk, va, vb]
    simp
  have hlen : (dR6 L).2.1 - 1 = (pay (1 + (dR1 L).1) (1 + (dR2 L).1) (dR3 L).1 (dR5 L).1).length := by
    have h1 := congrArg List.length hP
    simp only [List.length_drop, List.length_append] at h1
    omega
  have htake : (L.drop 1).take ((dR6 L).2.1 - 1) = pay (1 + (dR1 L).1) (1 + (dR2 L).1) (dR3 L).1 (dR5 L).1 := by
    rw [hP, hlen, List.take_left]
  simp only [ne_eq, Decidable.not_not] at hx
  rw [htake, d7] at hx
  refine ⟨?_, ?_⟩
  · have d00 : L = 60 :: L.drop 1 := by
      have : (1 : Nat) = (dR0 L).2.1 := by omega
      rw [this]; simpa using d0
    show L = form (1 + (dR1 L).1) (1 + (dR2 L).1) (dR3 L).1 (dR5 L).1
    exact d00.trans (by rw [hP, d7, form, ← hx]; simp)
  · show chk (1 + (dR1 L).1) (1 + (dR2 L).1) (dR3 L).1 (dR5 L).1 = 0
    rw [v1, v2, va, vb]
    exact chk_mk (by omega)

theorem decS_form {L : List UInt8} (h : (decS L).er = 0) : L = form (decS L).t (decS L).k (decS L).a (decS L).b ∧ chk (decS L).t (decS L).k (decS L).a (decS L).b = 0 := by
  have e : decS L = decA L := by
    unfold decS at h ⊢
    split at h
    · simp at h
    · rename_i hl
      rw [if_neg hl]
      split at h
      · rename_i hn; first | rfl | rw [hn]
      · unfold bey at h
        simp only [] at h
        split at h
        · simp at h
        · contradiction
  rw [e] at h ⊢
  exact decA_form h

/-! A form, read. -/
theorem rd_mk {s of t : List UInt8} {p : Nat} {c : UInt8} {j : Nat} (h : s.drop p = c :: t) (hj : ixI of (bn c) 0 = j) : rdS s of p true = ((j : Int), p + 1, true) ∧ s.drop (p + 1) = t := by
  have hp : p < s.length := by
    rcases Nat.lt_or_ge p s.length with h' | h'
    · exact h'
    · rw [List.drop_eq_nil_of_le h'] at h; simp at h
  have hd := drop_cons hp
  rw [h] at hd
  simp only [List.cons.injEq] at hd
  refine ⟨?_, hd.2.symm⟩
  unfold rdS
  rw [if_neg (by simp; omega), ← hd.1, hj, if_neg (by omega)]

theorem ix_dig (j : Nat) (h : j < 10) : ixI digL (bn (UInt8.ofNat (48 + j))) 0 = j := by
  have : ∀ j : Fin 10, ixI digL (bn (UInt8.ofNat (48 + j.val))) 0 = (j.val : Int) := by decide
  exact this ⟨j, h⟩
theorem isDig_dig (j : Nat) (h : j < 10) : isDig (UInt8.ofNat (48 + j)) = true := by
  have : ∀ j : Fin 10, isDig (UInt8.ofNat (48 + j.val)) = true := by decide
  exact this ⟨j, h⟩

theorem num_mk {s t : List UInt8} {p n : Nat} {c : UInt8} (h : s.drop p = digs n ++ c :: t) (hn : n ≤ 99) (hc : isDig c = false) : numS s p true = ((n : Int), p + (digs n).length, true) ∧ s.drop (p + (digs n).length) = c :: t := by
  unfold digs at h ⊢
  have more : ∀ q d u, s.drop q = d :: u → moreS s q true = isDig d := by
    intro q d u hq
    have hp : q < s.length := by
      rcases Nat.lt_or_ge q s.length with h' | h'
      · exact h'
      · rw [List.drop_eq_nil_of_le h'] at hq; simp at hq
    have hd := drop_cons hp
    rw [hq] at hd
    simp only [List.cons.injEq] at hd
    unfold moreS
    rw [← hd.1]
    simp [hp]
  split at h
  · rename_i hlt
    rw [if_pos hlt]
    obtain ⟨h1, h2⟩ := rd_mk (of := digL) (j := n) h (ix_dig n hlt)
    refine ⟨?_, h2⟩
    unfold numS
    rw [h1]
    simp only []
    rw [more _ _ _ h2, hc, if_neg (by simp)]
    rfl
  · rename_i hlt
    rw [if_neg hlt]
    obtain ⟨h1, h2⟩ := rd_mk (of := digL) (j := n / 10) h (ix_dig _ (by omega))
    obtain ⟨h3, h4⟩ := rd_mk (of := digL) (j := n % 10) h2 (ix_dig _ (by omega))
    refine ⟨?_, h4⟩
    unfold numS
    rw [h1]
    simp only []
    rw [more _ _ _ h2, isDig_dig _ (by omega), if_pos ⟨by omega, rfl⟩, h3]
    simp only [Prod.mk.injEq, and_true]
    refine ⟨by omega, rfl⟩

theorem ix_tag (t : Int) (h1 : 1 ≤ t) (h2 : t ≤ 3) : ixI [80, 83, 68] (bn (tagB t)) 0 = ((t - 1).toNat : Nat) := by
  obtain rfl | rfl | rfl : t = 1 ∨ t = 2 ∨ t = 3 := by omega
  all_goals decide
theorem ix_kind (t : Int) (h1 : 1 ≤ t) (h2 : t ≤ 4) : ixI [104, 99, 107, 109] (bn (kindB t)) 0 = ((t - 1).toNat : Nat) := by
  obtain rfl | rfl | rfl | rfl : t = 1 ∨ t = 2 ∨ t = 3 ∨ t = 4 := by omega
  all_goals decide
theorem ix_hex (n : Nat) (h : n < 16) : ixI hexL (bn (hexd n)) 0 = n := by
  have : ∀ n : Fin 16, ixI hexL (bn (hexd n.val)) 0 = (n.val : Int) := by decide
  exact this ⟨n, h⟩
theorem hexd_asc (n : Nat) : (hexd n).toNat ≤ 126 := by
  rcases Nat.lt_or_ge n 16 with h | h
  · have : ∀ n : Fin 16, (hexd n.val).toNat ≤ 126 := by decide
    exact this ⟨n, h⟩
  · unfold hexd; rw [List.getD_eq_getElem?_getD, List.getElem?_eq_none (by simpa using h)]; decide
theorem digs_asc (n : Nat) (hn : n ≤ 99) : ∀ c ∈ digs n, c.toNat ≤ 126 := by
  have dg : ∀ j, j < 10 → (UInt8.ofNat (48 + j)).toNat ≤ 126 := fun j hj => by
    have : ∀ j : Fin 10, (UInt8.ofNat (48 + j.val)).toNat ≤ 126 := by decide
    exact this ⟨j, hj⟩
  intro c hc
  unfold digs at hc
  split at hc
  · simp only [List.mem_singleton] at hc; subst hc; exact dg n (by omega)
  · simp only [List.mem_cons, List.not_mem_nil, or_false] at hc
    rcases hc with rfl | rfl
    · exact dg _ (by omega)
    · exact dg _ (by omega)
theorem tag_asc (t : Int) : (tagB t).toNat ≤ 126 := by
  unfold tagB
  generalize (t - 1).toNat = n
  rcases n with _ | _ | _ | n <;> simp
theorem kind_asc (t : Int) : (kindB t).toNat ≤ 126 := by
  unfold kindB
  generalize (t - 1).toNat = n
  rcases n with _ | _ | _ | _ | n <;> simp
theorem form_asc {t k a b : Int} (h : chk t k a b = 0) : ∀ c ∈ form t k a b, c.toNat ≤ 126 := by
  obtain ⟨_, _, _, _, _, ha, _, hb⟩ := chk_ok h
  intro c hc
  unfold form pay hexS at hc
  simp only [List.mem_cons, List.mem_append, List.not_mem_nil, or_false] at hc
  rcases hc with rfl | (rfl | rfl | hc | rfl | hc | rfl) | (rfl | rfl) | rfl
  · decide
  · exact tag_asc _
  · exact kind_asc _
  · exact digs_asc _ (by omega) _ hc
  · decide
  · exact digs_asc _ (by omega) _ hc
  · decide
  · exact hexd_asc _
  · exact hexd_asc _
  · decide

theorem form_dec {t k a b : Int} (h : chk t k a b = 0) : decS (form t k a b) = ⟨t, k, a, b, 0, 0⟩ := by
  obtain ⟨ht1, ht2, hk1, hk2, ha1, ha2, hb1, hb2⟩ := chk_ok h
  have hl := form_len t k a b
  have hp := pay_len t k a b
  have hf : (form t k a b).findIdx? (fun c => decide (126 < c.toNat)) = none := by
    rw [List.findIdx?_eq_none_iff]
    intro c hc
    have := form_asc h c hc
    simp; omega
  unfold decS
  rw [if_neg (by omega), hf]
  show decA (form t k a b) = _
  obtain ⟨L, hL⟩ : ∃ L, form t k a b = L := ⟨_, rfl⟩
  have hP : L = 60 :: (pay t k a b ++ (hexS (crc (pay t k a b)) ++ [62])) := hL.symm
  have hs : (L.drop 1) = pay t k a b ++ (hexS (crc (pay t k a b)) ++ [62]) := by rw [hP]; rfl
  rw [hL] at hl ⊢
  have d0 : L.drop 0 = 60 :: (tagB t :: (kindB k :: (digs a.toNat ++ 44 :: (digs b.toNat ++ 59 :: (hexS (crc (pay t k a b)) ++ [62]))))) := by
    rw [hP]; show 60 :: (pay t k a b ++ _) = _; conv => lhs; unfold pay
    simp [pay]
  obtain ⟨r0, e0⟩ := rd_mk (of := [60]) (j := 0) d0 (by decide)
  have h0 : dR0 L = (0, 0 + 1, true) := r0
  obtain ⟨r1, e1⟩ := rd_mk e0 (ix_tag t ht1 ht2)
  have h1 : dR1 L = ((((t - 1).toNat : Nat) : Int), 0 + 1 + 1, true) := by unfold dR1; rw [h0]; exact r1
  obtain ⟨r2, e2⟩ := rd_mk e1 (ix_kind k hk1 hk2)
  have h2 : dR2 L = ((((k - 1).toNat : Nat) : Int), 0 + 1 + 1 + 1, true) := by unfold dR2; rw [h1]; exact r2
  obtain ⟨r3, e3⟩ := num_mk e2 (by omega) (by decide)
  have h3 : dR3 L = (((a.toNat : Nat) : Int), 0 + 1 + 1 + 1 + (digs a.toNat).length, true) := by unfold dR3; rw [h2]; exact r3
  obtain ⟨r4, e4⟩ := rd_mk (of := [44]) (j := 0) e3 (by decide)
  have h4 : dR4 L = (0, 0 + 1 + 1 + 1 + (digs a.toNat).length + 1, true) := by unfold dR4; rw [h3]; exact r4
  obtain ⟨r5, e5⟩ := num_mk e4 (by omega) (by decide)
  have h5 : dR5 L = (((b.toNat : Nat) : Int), 0 + 1 + 1 + 1 + (digs a.toNat).length + 1 + (digs b.toNat).length, true) := by unfold dR5; rw [h4]; exact r5
  obtain ⟨r6, e6⟩ := rd_mk (of := [59]) (j := 0) e5 (by decide)
  have h6 : dR6 L = (0, 0 + 1 + 1 + 1 + (digs a.toNat).length + 1 + (digs b.toNat).length + 1, true) := by unfold dR6; rw [h5]; exact r6
  have hpl : (pay t k a b).length = (digs a.toNat).length + (digs b.toNat).length + 4 := by simp [pay]; omega
  have h6' : (dR6 L).2.1 = (pay t k a b).length + 1 := by rw [h6, hpl]; simp only []; omega
  have e6' : L.drop (dR6 L).2.1 = hexS (crc (pay t k a b)) ++ [62] := by rw [h6]; exact e6
  have hb8 := (crc (pay t k a b)).toNat_lt
  unfold hexS at e6
  simp only [List.cons_append, List.nil_append] at e6
  obtain ⟨r7, e7⟩ := rd_mk e6 (ix_hex _ (by omega))
  have h7 : dR7 L = rdS L hexL (dR6 L).2.1 (dR6 L).2.2 := rfl
  rw [h6] at h7
  replace h7 := h7.trans r7
  obtain ⟨r8, e8⟩ := rd_mk e7 (ix_hex _ (by omega))
  have h8 : dR8 L = rdS L hexL (dR7 L).2.1 (dR7 L).2.2 := rfl
  rw [h7] at h8
  replace h8 := h8.trans r8
  obtain ⟨r9, e9⟩ := rd_mk (of := [62]) (j := 0) e8 (by decide)
  have h9 : dR9 L = rdS L [62] (dR8 L).2.1 (dR8 L).2.2 := rfl
  rw [h8] at h9
  replace h9 := h9.trans r9
  have htake : (L.drop 1).take ((dR6 L).2.1 - 1) = pay t k a b := by
    rw [hs, h6', Nat.add_sub_cancel, List.take_left]
  rw [decA_good (by rw [h9]) (by
    rw [htake, e6']; simp [hexS]) (by rw [h9]; simp only []; omega)]
  rw [h1, h2, h3, h5]
  simp only [DecR.mk.injEq, and_true]
  refine ⟨by omega, by omega, by omega, by omega⟩

theorem hexS_inj {a b : UInt8} (h : hexS a = hexS b) : a = b := by
  have inj : ∀ m n : Fin 16, hexd m.val = hexd n.val → m = n := by decide
  unfold hexS at h
  simp only [List.cons.injEq, and_true] at h
  have ha := a.toNat_lt
  have hb := b.toNat_lt
  have h1 := inj ⟨a.toNat / 16, by omega⟩ ⟨b.toNat / 16, by omega⟩ h.1
  have h2 := inj ⟨a.toNat % 16, by omega⟩ ⟨b.toNat % 16, by omega⟩ h.2
  simp only [Fin.mk.injEq] at h1 h2
  exact UInt8.toNat_inj.1 (by omega)

/-- No form is another form with one byte changed. -/
theorem form_spoilt {t k a b t' k' a' b' : Int} {u v : List UInt8} {x y : UInt8} (h : form t k a b = u ++ x :: v) (h' : form t' k' a' b' = u ++ y :: v) : x = y := by
  have hl : (pay t k a b).length = (pay t' k' a' b').length := by
    have e1 := form_len t k a b
    have e2 := form_len t' k' a' b'
    rw [h] at e1; rw [h'] at e2
    simp at e1 e2; omega
  unfold form at h h'
  generalize pay t k a b = P at *
  generalize pay t' k' a' b' = P' at *
  cases u with
  | nil =>
    simp only [List.nil_append, List.cons.injEq] at h h'
    rw [← h.1, ← h'.1]
  | cons w u =>
    simp only [List.cons_append, List.cons.injEq] at h h'
    have h1 := h.2
    have h2 := h'.2
    rcases Nat.lt_or_ge u.length P.length with hlt | hge
    · have eP : P.take u.length = u := by
        have := congrArg (List.take u.length) h1
        rwa [List.take_append_of_le_length (by omega), List.take_left] at this
      have eP' : P'.take u.length = u := by
        have := congrArg (List.take u.length) h2
        rwa [List.take_append_of_le_length (by omega), List.take_left] at this
      have fP : P.drop u.length ++ (hexS (crc P) ++ [62]) = x :: v := by
        have := congrArg (List.drop u.length) h1
        rwa [List.drop_append_of_le_length (by omega), List.drop_left] at this
      have fP' : P'.drop u.length ++ (hexS (crc P') ++ [62]) = y :: v := by
        have := congrArg (List.drop u.length) h2
        rwa [List.drop_append_of_le_length (by omega), List.drop_left] at this
      cases hD : P.drop u.length with
      | nil => have := congrArg List.length hD; simp at this; omega
      | cons x1 v1 =>
        cases hD' : P'.drop u.length with
        | nil => have := congrArg List.length hD'; simp at this; omega
        | cons y1 v2 =>
          rw [hD] at fP
          rw [hD'] at fP'
          simp only [List.cons_append, List.cons.injEq] at fP fP'
          have hlv : v1.length = v2.length := by
            have a1 := congrArg List.length hD
            have a2 := congrArg List.length hD'
            simp at a1 a2; omega
          have hv := fP.2.trans fP'.2.symm
          obtain ⟨g1, g2⟩ := List.append_inj hv hlv
          have g3 := (List.append_inj g2 (by simp [hexS])).1
          have hc := hexS_inj g3
          have pp : P = u ++ x :: v1 := by rw [← List.take_append_drop u.length P, eP, hD, fP.1]
          have pp' : P' = u ++ y :: v1 := by rw [← List.take_append_drop u.length P', eP', hD', fP'.1, g1]
          rw [pp, pp'] at hc
          exact crc_spoilt hc
    · have eP : P = u.take P.length := by
        have := congrArg (List.take P.length) h1
        rwa [List.take_left, List.take_append_of_le_length (by omega)] at this
      have eP' : P' = u.take P.length := by
        have := congrArg (List.take P'.length) h2
        rwa [List.take_left, List.take_append_of_le_length (by omega), ← hl] at this
      have : P = P' := eP.trans eP'.symm
      subst this
      have := h1.symm.trans h2
      simpa using this
end Go.Proofs.YtaipifjmkbcjjaaDoor

/- Plain words: what is read of a text with a byte beyond the letters is what is read of its beginning. -/
namespace Go.Proofs.YtaipifjmkbcjjaaDoor

section
variable {L : List UInt8} {i : Nat}

theorem ix_beyond {of : List UInt8} (hof : ∀ c ∈ of, c.toNat ≤ 126) {x : UInt8} (hx : 126 < x.toNat) : ixI of (bn x) 0 < 0 := by
  rcases ixI_get of x 0 with h | ⟨j, h1, _, h3⟩
  · omega
  · have hm : of.getD j 0 ∈ of := by
      rw [List.getD_eq_getElem?_getD, List.getElem?_eq_getElem h1]; exact List.getElem_mem h1
    have := hof _ hm
    rw [h3] at this; omega

theorem getD_take {p : Nat} (hp : p < i) : (L.take i).getD p 0 = L.getD p 0 := by
  simp [List.getD_eq_getElem?_getD, hp]

theorem rdS_take (hi : i < L.length) (hx : 126 < (L.getD i 0).toNat) {of : List UInt8} (hof : ∀ c ∈ of, c.toNat ≤ 126) {p : Nat} (hp : p ≤ i) (ok : Bool) :
    rdS (L.take i) of p ok = rdS L of p ok ∧ (rdS L of p ok).2.1 ≤ i := by
  have hl : (L.take i).length = i := by rw [List.length_take]; omega
  cases ok with
  | false => unfold rdS; simp; exact hp
  | true =>
    rcases Nat.lt_or_ge p i with h | h
    · unfold rdS
      have c1 : ¬ (true = false ∨ i ≤ p) := by simp; omega
      have c2 : ¬ (true = false ∨ L.length ≤ p) := by simp; omega
      rw [hl, getD_take h, if_neg c1, if_neg c2]
      split
      · exact ⟨rfl, hp⟩
      · exact ⟨rfl, by show p + 1 ≤ i; omega⟩
    · have : p = i := by omega
      subst this
      unfold rdS
      have c2 : ¬ (true = false ∨ L.length ≤ p) := by simp; omega
      rw [hl, if_pos (.inr (Nat.le_refl _)), if_neg c2, if_pos (ix_beyond hof hx)]
      exact ⟨rfl, Nat.le_refl _⟩

theorem dig_low : ∀ c ∈ digL, c.toNat ≤ 126 := by decide

theorem moreS_take (hi : i < L.length) (hx : 126 < (L.getD i 0).toNat) {p : Nat} (hp : p ≤ i) (ok : Bool) : moreS (L.take i) p ok = moreS L p ok := by
  have hl : (L.take i).length = i := by rw [List.length_take]; omega
  unfold moreS
  rw [hl]
  rcases Nat.lt_or_ge p i with h | h
  · rw [getD_take h]
    have h1 : decide (p < i) = true := by simpa using h
    have h2 : decide (p < L.length) = true := by simp; omega
    rw [h1, h2]
  · have : p = i := by omega
    subst this
    have hd : isDig (L.getD p 0) = false := by
      have h : ∀ n : Fin 256, 126 < n.val → isDig (UInt8.ofNat n.val) = false := by decide +kernel
      have := h ⟨(L.getD p 0).toNat, (L.getD p 0).toNat_lt⟩ hx
      simpa using this
    rw [hd]; simp

theorem numS_take (hi : i < L.length) (hx : 126 < (L.getD i 0).toNat) {p : Nat} (hp : p ≤ i) (ok : Bool) :
    numS (L.take i) p ok = numS L p ok ∧ (numS L p ok).2.1 ≤ i := by
  obtain ⟨h1, h2⟩ := rdS_take hi hx dig_low hp ok
  obtain ⟨h3, h4⟩ := rdS_take hi hx dig_low h2 (rdS L digL p ok).2.2
  unfold numS
  simp only []
  rw [h1, moreS_take hi hx h2, h3]
  refine ⟨rfl, ?_⟩
  split
  · exact h4
  · exact h2

theorem dR_take (hi : i < L.length) (hx : 126 < (L.getD i 0).toNat) :
    dR1 (L.take i) = dR1 L ∧ dR2 (L.take i) = dR2 L ∧ dR3 (L.take i) = dR3 L ∧ dR5 (L.take i) = dR5 L ∧ dR6 (L.take i) = dR6 L ∧ dR9 (L.take i) = dR9 L ∧ (dR9 L).2.1 ≤ i := by
  have l0 : ∀ c ∈ ([60] : List UInt8), c.toNat ≤ 126 := by decide
  have l1 : ∀ c ∈ ([80, 83, 68] : List UInt8), c.toNat ≤ 126 := by decide
  have l2 : ∀ c ∈ ([104, 99, 107, 109] : List UInt8), c.toNat ≤ 126 := by decide
  have l4 : ∀ c ∈ ([44] : List UInt8), c.toNat ≤ 126 := by decide
  have l6 : ∀ c ∈ ([59] : List UInt8), c.toNat ≤ 126 := by decide
  have l7 : ∀ c ∈ hexL, c.toNat ≤ 126 := by decide
  have l9 : ∀ c ∈ ([62] : List UInt8), c.toNat ≤ 126 := by decide
  obtain ⟨e0, b0⟩ := rdS_take hi hx l0 (Nat.zero_le i) true
  have r0 : dR0 (L.take i) = dR0 L := e0
  obtain ⟨e1, b1⟩ := rdS_take hi hx l1 (p := (dR0 L).2.1) b0 (dR0 L).2.2
  have r1 : dR1 (L.take i) = dR1 L := by unfold dR1; rw [r0]; exact e1
  obtain ⟨e2, b2⟩ := rdS_take hi hx l2 (p := (dR1 L).2.1) b1 (dR1 L).2.2
  have r2 : dR2 (L.take i) = dR2 L := by unfold dR2; rw [r1]; exact e2
  obtain ⟨e3, b3⟩ := numS_take hi hx (p := (dR2 L).2.1) b2 (dR2 L).2.2
  have r3 : dR3 (L.take i) = dR3 L := by unfold dR3; rw [r2]; exact e3
  obtain ⟨e4, b4⟩ := rdS_take hi hx l4 (p := (dR3 L).2.1) b3 (dR3 L).2.2
  have r4 : dR4 (L.take i) = dR4 L := by unfold dR4; rw [r3]; exact e4
  obtain ⟨e5, b5⟩ := numS_take hi hx (p := (dR4 L).2.1) b4 (dR4 L).2.2
  have r5 : dR5 (L.take i) = dR5 L := by unfold dR5; rw [r4]; exact e5
  obtain ⟨e6, b6⟩ := rdS_take hi hx l6 (p := (dR5 L).2.1) b5 (dR5 L).2.2
  have r6 : dR6 (L.take i) = dR6 L := by unfold dR6; rw [r5]; exact e6
  obtain ⟨e7, b7⟩ := rdS_take hi hx l7 (p := (dR6 L).2.1) b6 (dR6 L).2.2
  have r7 : dR7 (L.take i) = dR7 L := by unfold dR7; rw [r6]; exact e7
  obtain ⟨e8, b8⟩ := rdS_take hi hx l7 (p := (dR7 L).2.1) b7 (dR7 L).2.2
  have r8 : dR8 (L.take i) = dR8 L := by unfold dR8; rw [r7]; exact e8
  obtain ⟨e9, b9⟩ := rdS_take hi hx l9 (p := (dR8 L).2.1) b8 (dR8 L).2.2
  have r9 : dR9 (L.take i) = dR9 L := by unfold dR9; rw [r8]; exact e9
  exact ⟨r1, r2, r3, r5, r6, r9, b9⟩
end

theorem decS_decA (L : List UInt8) (hl : L.length ≤ 16) : decS L = decA L := by
  unfold decS
  rw [if_neg (by omega)]
  cases hf : L.findIdx? (fun c => decide (126 < c.toNat)) with
  | none => rfl
  | some i =>
    show bey (decA (L.take i)) i = decA L
    rw [List.findIdx?_eq_some_iff_getElem] at hf
    obtain ⟨hi, h2, -⟩ := hf
    have hx : 126 < (L.getD i 0).toNat := by
      rw [List.getD_eq_getElem?_getD, List.getElem?_eq_getElem hi]; simpa using h2
    obtain ⟨r1, r2, r3, r5, r6, r9, b9⟩ := dR_take hi hx
    have hlt : (L.take i).length = i := by rw [List.length_take]; omega
    cases h9 : (dR9 L).2.2 with
    | false =>
      have e1 : decA (L.take i) = ⟨0, 0, 0, 0, 3, (dR9 L).2.1⟩ := by rw [decA, r9, if_pos h9]
      have e2 : decA L = ⟨0, 0, 0, 0, 3, (dR9 L).2.1⟩ := by rw [decA, if_pos h9]
      rw [e1, e2]; rfl
    | true =>
      obtain ⟨g1, g2, g3⟩ := dR9_ok h9
      have hd : ((L.take i).drop (dR6 L).2.1).take 2 = (L.drop (dR6 L).2.1).take 2 := by
        rw [List.drop_take, List.take_take]; congr 1; omega
      have hp : ((L.take i).drop 1).take ((dR6 L).2.1 - 1) = (L.drop 1).take ((dR6 L).2.1 - 1) := by
        rw [List.drop_take, List.take_take]; congr 1; omega
      by_cases hs : (L.drop (dR6 L).2.1).take 2 ≠ hexS (crc ((L.drop 1).take ((dR6 L).2.1 - 1)))
      · have e1 : decA (L.take i) = ⟨0, 0, 0, 0, 10, (dR6 L).2.1⟩ := by
          have := decA_sum (L := L.take i) (by rw [r9]; exact h9) (by rw [r6, hd, hp]; exact hs)
          rw [r6] at this; exact this
        rw [e1, decA_sum h9 hs]; rfl
      · have e2 : decA L = ⟨0, 0, 0, 0, 3, (dR9 L).2.1⟩ := decA_long h9 hs (by omega)
        rw [e2]
        by_cases hlong : (dR9 L).2.1 < i
        · have e1 : decA (L.take i) = ⟨0, 0, 0, 0, 3, (dR9 L).2.1⟩ := by
            have := decA_long (L := L.take i) (by rw [r9]; exact h9) (by rw [r6, hd, hp]; exact hs) (by rw [r9, hlt]; exact hlong)
            rw [r9] at this; exact this
          rw [e1]; rfl
        · have hei : (dR9 L).2.1 = i := by omega
          have e1 := decA_good (L := L.take i) (by rw [r9]; exact h9) (by rw [r6, hd, hp]; exact hs) (by rw [r9, hlt]; exact hlong)
          rw [e1, hei]; rfl
end Go.Proofs.YtaipifjmkbcjjaaDoor

/- Walks: the reference's number of a form. -/
namespace Go.Proofs.YtaipifjmkbcjjaaDoor
open Go.RowKit Go.Sort

theorem isDig_iff (b : UInt8) : isDig b = (decide (48 ≤ b.toNat) && decide (b.toNat ≤ 57)) := by
  have h : ∀ n : Fin 256, isDig (UInt8.ofNat n.val) = (decide (48 ≤ (UInt8.ofNat n.val).toNat) && decide ((UInt8.ofNat n.val).toNat ≤ 57)) := by decide +kernel
  have := h ⟨b.toNat, b.toNat_lt⟩
  simpa using this

set_option maxHeartbeats 8000000 in
theorem ronum_any (b : Nat) (s : ByteArray) (p : Nat) (ok : Bool) (w : World) (hs : s.size ≤ maxLen) (hR : Rd 110 b s p (!ok) w) :
    Calls Tryd.prog 74 #[.pointer (some ⟨b, 0, none⟩)] w fun e w' => e = .returned (.int .i64 (numS s.data.toList p ok).1) ∧
      Rd 110 b s (numS s.data.toList p ok).2.1 (!(numS s.data.toList p ok).2.2) w' ∧ w.grownBy w' (some b) := by
  have he := digs10
  have hm : (bs digL).size ≤ maxLen := by rw [bs_size]; unfold maxLen; simp
  have hb1 := rdS_bound s.data.toList digL p ok
  have hl : (digL.length : Int) = 10 := rfl
  obtain ⟨n1, p1, ok1, hr1⟩ : ∃ n1 p1 ok1, rdS s.data.toList digL p ok = (n1, p1, ok1) := ⟨_, _, _, rfl⟩
  obtain ⟨n2, p2, ok2, hr2⟩ : ∃ n2 p2 ok2, rdS s.data.toList digL p1 ok1 = (n2, p2, ok2) := ⟨_, _, _, rfl⟩
  have hb2 := rdS_bound s.data.toList digL p1 ok1
  rw [hl, hr1] at hb1
  rw [hl, hr2] at hb2
  obtain ⟨n1a, n1b, -⟩ := hb1
  obtain ⟨n2a, n2b, -⟩ := hb2
  simp only [] at n1a n1b n2a n2b
  have hres : numS s.data.toList p ok = if 0 < n1 ∧ moreS s.data.toList p1 ok1 = true then (10 * n1 + n2, p2, ok2) else (n1, p1, ok1) := by
    unfold numS; rw [hr1]; simp only []; rw [hr2]
  have hone : ∀ W, Rd 110 b s p (!ok) W → Calls Tryd.prog 73 #[.pointer (some ⟨b, 0, none⟩), .string (bs digL)] W fun e w' => e = .returned (.int .i64 n1) ∧ Rd 110 b s p1 (!ok1) w' ∧ W.grownBy w' (some b) := fun W h => by
    have := ro_any b s (bs digL) p ok W hs hm h
    rw [bs_list, hr1] at this; exact this
  have htwo : ∀ W, Rd 110 b s p1 (!ok1) W → Calls Tryd.prog 73 #[.pointer (some ⟨b, 0, none⟩), .string (bs digL)] W fun e w' => e = .returned (.int .i64 n2) ∧ Rd 110 b s p2 (!ok2) w' ∧ W.grownBy w' (some b) := fun W h => by
    have := ro_any b s (bs digL) p1 ok1 W hs hm h
    rw [bs_list, hr2] at this; exact this
  generalize numS s.data.toList p ok = res at *
  have Hres := Lib.hid hres
  clear hres
  have hmo : moreS s.data.toList p1 ok1 = (ok1 && decide (p1 < s.size) && isDig (s.data.toList.getD p1 0)) := by unfold moreS; simp
  go_enter Tryd.func74, Tryd.ntmps74
  go_wp2_with (go_at_call 73; refine (hone _ hR).mono ?_; rintro e w1 ⟨rfl, hR1, hg1⟩)
  have c0 := hR1.c0
  have c1 := hR1.c1
  have c2 := hR1.c2
  clear hone hR hr1 hr2
  have hs2 := hs
  unfold maxLen at hs2
  have hp1 : (0 : Int) ≤ p1 := by omega
  rcases (show ok1 = false ∨ (ok1 = true ∧ n1 = 0) ∨ (ok1 = true ∧ 0 < n1 ∧ s.size ≤ p1) ∨ (ok1 = true ∧ 0 < n1 ∧ p1 < s.size) by
      rcases Bool.eq_false_or_eq_true ok1 with h | h
      · rcases (show n1 = 0 ∨ 0 < n1 by omega) with h' | h'
        · exact .inr (.inl ⟨h, h'⟩)
        · rcases Nat.lt_or_ge p1 s.size with h2 | h2
          · exact .inr (.inr (.inr ⟨h, h', h2⟩))
          · exact .inr (.inr (.inl ⟨h, h', h2⟩))
      · exact .inl h) with rfl | ⟨rfl, rfl⟩ | ⟨rfl, hn, hge⟩ | ⟨rfl, hn, hlt⟩
  · have hmF : moreS s.data.toList p1 false = false := by rw [hmo]; simp
    simp only [Bool.not_false] at c2
    go_quiet (fail)
    go_wp2
    go_ret
    have hres := Hres.out
    rw [hmF, if_neg (by simp)] at hres
    subst hres
    exact ⟨rfl, hR1, grown_trans hg1 (grown_draw nq)⟩
  · have hres := Hres.out
    rw [if_neg (by simp)] at hres
    subst hres
    simp only [Bool.not_true] at c2
    go_quiet (fail)
    go_wp2
    go_ret
    exact ⟨rfl, hR1, grown_trans hg1 (grown_draw nq)⟩
  · have hmF : moreS s.data.toList p1 true = false := by rw [hmo]; simp; omega
    have hn0 : (n1 == 0) = false := by simp; omega
    have hge2 : decide ((s.size : Int) ≤ (p1 : Int)) = true := by simpa using hge
    simp only [Bool.not_true] at c2
    go_quiet (fail)
    go_wp2
    go_ret
    have hres := Hres.out
    rw [hmF, if_neg (by simp)] at hres
    subst hres
    exact ⟨rfl, hR1, grown_trans hg1 (grown_draw nq)⟩
  · have hn0 : (n1 == 0) = false := by simp; omega
    have hge2 : decide ((s.size : Int) ≤ (p1 : Int)) = false := by simpa using hlt
    have hge3 : decide (s.size ≤ p1) = false := by simpa using hlt
    have hp2 : (p1 : Int) < s.size := by omega
    rw [byte_at s p1 hlt, isDig_iff] at hmo
    obtain ⟨x, hx⟩ : ∃ x, s[p1]'hlt = x := ⟨_, rfl⟩
    rw [hx] at hmo
    simp only [Bool.not_true] at c2
    rcases (show x.toNat < 48 ∨ 57 < x.toNat ∨ (48 ≤ x.toNat ∧ x.toNat ≤ 57) by omega) with h | h | ⟨h, h'⟩
    · have hmF : moreS s.data.toList p1 true = false := by rw [hmo]; simp; omega
      have t1 : decide ((x.toNat : Int) < 48) = true := by simp; omega
      go_quiet (fail)
      go_wp2
      go_ret
      have hres := Hres.out
      rw [hmF, if_neg (by simp)] at hres
      subst hres
      exact ⟨rfl, hR1, grown_trans hg1 (grown_draw nq)⟩
    · have hmF : moreS s.data.toList p1 true = false := by rw [hmo]; simp; omega
      have t1 : decide ((x.toNat : Int) < 48) = false := by simp; omega
      have t2 : decide ((57 : Int) < (x.toNat : Int)) = true := by simp; omega
      go_quiet (fail)
      go_wp2
      go_ret
      have hres := Hres.out
      rw [hmF, if_neg (by simp)] at hres
      subst hres
      exact ⟨rfl, hR1, grown_trans hg1 (grown_draw nq)⟩
    · have hmT : moreS s.data.toList p1 true = true := by rw [hmo]; simp; omega
      have t1 : decide ((x.toNat : Int) < 48) = false := by simp; omega
      have t2 : decide ((57 : Int) < (x.toNat : Int)) = false := by simp; omega
      go_quiet (fail)
      have HR2 : Rd 110 b s p1 (!true) (w1.drewN nq) := hR1
      have HG2 : Hid (w.grownBy (w1.drewN nq) (some b)) := grown_trans hg1 (grown_draw nq)
      generalize w1.drewN nq = W at *
      clear c0 c1 c2 hR1 hg1
      go_wp2_with (go_at_call 73; refine (htwo _ HR2).mono ?_; rintro e w3 ⟨rfl, hR3, hg3⟩)
      go_ret
      have hres := Hres.out
      rw [hmT, if_pos ⟨hn, rfl⟩] at hres
      subst hres
      exact ⟨ret_int (by simp), hR3, grown_trans HG2.out hg3⟩
end Go.Proofs.YtaipifjmkbcjjaaDoor

/- Walks: a form read by the reference. -/
namespace Go.Proofs.YtaipifjmkbcjjaaDoor
open Go.RowKit Go.Sort

/-- What lies in memory while the reference reads a form. -/
structure OV (B2 B3 br : Nat) (s : ByteArray) (p : Nat) (ok : Bool) (w0 w : World) : Prop where
  rd : Rd 110 br s p (!ok) w
  r2 : Bl B2 #[.int .i64 0, .int .i64 0, .int .i64 0, .int .i64 0] 68 w
  r3 : Bl B3 #[.int .i64 0, .int .i64 0] 70 w
  bel : Below w0.heap.size w0 w
  n1 : w0.heap.size ≤ B2
  n2 : B2 < B3
  n3 : B3 < br

theorem OV.call {B2 B3 br s p ok w0 w w' p' ok'} (h : OV B2 B3 br s p ok w0 w) (hR : Rd 110 br s p' (!ok') w') (hg : w.grownBy w' (some br)) : OV B2 B3 br s p' ok' w0 w' :=
  ⟨hR, h.r2.grown hg (by have := h.n2; have := h.n3; intro e; cases e; omega), h.r3.grown hg (by have := h.n3; intro e; cases e; omega),
    h.bel.grown hg h.bel.size (fun k hk => by cases hk; have := h.n1; have := h.n2; have := h.n3; omega), h.n1, h.n2, h.n3⟩
theorem OV.alloc {B2 B3 br s p ok w0 w} (h : OV B2 B3 br s p ok w0 w) (o : Obj) : OV B2 B3 br s p ok w0 (w.alloc o) :=
  ⟨h.rd.bl.alloc o, h.r2.alloc o, h.r3.alloc o, h.bel.alloc h.bel.size o, h.n1, h.n2, h.n3⟩
theorem OV.later {B2 B3 br s p ok w0 w w'} (h : OV B2 B3 br s p ok w0 w) (hb : Below w.heap.size w w') : OV B2 B3 br s p ok w0 w' :=
  ⟨h.rd.below hb h.rd.lt, h.r2.below hb h.r2.lt, h.r3.below hb h.r3.lt, h.bel.trans (hb.mono h.bel.size), h.n1, h.n2, h.n3⟩
theorem OV.set {B2 B3 br s p ok w0 w} (h : OV B2 B3 br s p ok w0 w) (c o : Nat) (v : Value) (hc : br < c) : OV B2 B3 br s p ok w0 (w.setCell ⟨c, o, none⟩ v) :=
  have := h.n1; have := h.n2; have := h.n3
  ⟨h.rd.bl.other c o v (by omega), h.r2.other c o v (by omega), h.r3.other c o v (by omega), h.bel.setCell (by show _ ≤ c; omega) v, h.n1, h.n2, h.n3⟩

theorem ro_ov {B2 B3 br : Nat} {s : ByteArray} {p : Nat} {ok : Bool} {w0 w : World} (h : OV B2 B3 br s p ok w0 w) (hs : s.size ≤ 16) (of : ByteArray) (ho : of.size ≤ 100) (r : Int × Nat × Bool) (hr : rdS s.data.toList of.data.toList p ok = r) :
    Calls Tryd.prog 73 #[.pointer (some ⟨br, 0, none⟩), .string of] w fun e w' => e = .returned (.int .i64 r.1) ∧ OV B2 B3 br s r.2.1 r.2.2 w0 w' ∧ w.grownBy w' (some br) := by
  subst hr
  exact (ro_any br s of p ok w (by unfold maxLen; omega) (by unfold maxLen; omega) h.rd).mono fun e w' ⟨he, hR, hg⟩ => ⟨he, h.call hR hg, hg⟩
theorem ronum_ov {B2 B3 br : Nat} {s : ByteArray} {p : Nat} {ok : Bool} {w0 w : World} (h : OV B2 B3 br s p ok w0 w) (hs : s.size ≤ 16) (r : Int × Nat × Bool) (hr : numS s.data.toList p ok = r) :
    Calls Tryd.prog 74 #[.pointer (some ⟨br, 0, none⟩)] w fun e w' => e = .returned (.int .i64 r.1) ∧ OV B2 B3 br s r.2.1 r.2.2 w0 w' ∧ w.grownBy w' (some br) := by
  subst hr
  exact (ronum_any br s p ok w (by unfold maxLen; omega) h.rd).mono fun e w' ⟨he, hR, hg⟩ => ⟨he, h.call hR hg, hg⟩

theorem rd_bound (L of : List UInt8) (p : Nat) (ok : Bool) (n : Nat) (h : of.length = n) : 0 ≤ (rdS L of p ok).1 ∧ (rdS L of p ok).1 ≤ n := by
  have := rdS_bound L of p ok; omega

/-- The two digits of a sum, as a number. -/
theorem sum_num {L : List UInt8} (h9 : (dR9 L).2.2 = true) (c : UInt8) : ((L.drop (dR6 L).2.1).take 2 = hexS c) ↔ 16 * (dR7 L).1 + (dR8 L).1 = bn c := by
  obtain ⟨h8, a9, -, j9, b9, -, d9⟩ := rd_step h9
  obtain ⟨h7, a8, -, j8, b8, v8, d8⟩ := rd_step h8
  obtain ⟨h6, a7, -, j7, b7, v7, d7⟩ := rd_step h7
  have e7 : (dR7 L).2.1 = (dR6 L).2.1 + 1 := a7
  change L.drop (dR7 L).2.1 = _ at d8
  change L.drop (dR6 L).2.1 = _ at d7
  change (dR8 L).1 = _ at v8
  change (dR7 L).1 = _ at v7
  rw [← e7] at d7
  rw [d7, d8, v7, v8]
  have g7 : hexL.getD j7 0 = hexd j7 := rfl
  have g8 : hexL.getD j8 0 = hexd j8 := rfl
  rw [g7, g8]
  simp only [List.length_cons, List.length_nil] at b7 b8
  have inj : ∀ m n : Fin 16, hexd m.val = hexd n.val → m = n := by decide
  have hc := c.toNat_lt
  unfold hexS bn
  simp only [List.take_succ_cons, List.take_zero, List.cons.injEq, and_true]
  constructor
  · rintro ⟨h1, h2⟩
    have i1 := inj ⟨j7, by omega⟩ ⟨c.toNat / 16, by omega⟩ h1
    have i2 := inj ⟨j8, by omega⟩ ⟨c.toNat % 16, by omega⟩ h2
    simp only [Fin.mk.injEq] at i1 i2
    omega
  · intro h
    have i1 : j7 = c.toNat / 16 := by omega
    have i2 : j8 = c.toNat % 16 := by omega
    rw [i1, i2]; exact ⟨rfl, rfl⟩
end Go.Proofs.YtaipifjmkbcjjaaDoor

/- Walks: the reference's Decode. -/
namespace Go.Proofs.YtaipifjmkbcjjaaDoor
open Go.RowKit Go.Sort

theorem results_odec {tm : Array Value} {W : World} {B2 B3 : Nat} {t k a b er at' : Value} (h2 : tm.getD 2 undef = .pointer (some ⟨B2, 0, none⟩)) (h3 : tm.getD 3 undef = .pointer (some ⟨B3, 0, none⟩))
    (b2 : Bl B2 #[t, k, a, b] 68 W) (b3 : Bl B3 #[er, at'] 70 W) : (results Tryd.f44 tm).run Tryd.prog W = .ok (.tuple #[.agg #[t, k, a, b], .agg #[er, at']]) W := by
  rw [Array.getD_eq_getD_getElem?] at h2 h3
  have z0 := b2.cell 0
  have z1 := b2.cell 1
  have z2 := b2.cell 2
  have z3 := b2.cell 3
  have y0 := b3.cell 0
  have y1 := b3.cell 1
  simp only [List.getElem?_toArray, List.getElem?_cons_zero, List.getElem?_cons_succ] at z0 z1 z2 z3 y0 y1
  simp [results, Tryd.results44, go_sem, h2, h3, z0, z1, z2, z3, y0, y1]
theorem odec_ret {R : Ending → World → Prop} {ac : Act} {W : World} {B2 B3 : Nat} {t k a b er at' : Value} (h2 : ac.tmps.getD 2 undef = .pointer (some ⟨B2, 0, none⟩)) (h3 : ac.tmps.getD 3 undef = .pointer (some ⟨B3, 0, none⟩)) (hd : ac.defers = [])
    (b2 : Bl B2 #[t, k, a, b] 68 W) (b3 : Bl B3 #[er, at'] 70 W) (hR : R (.returned (.tuple #[.agg #[t, k, a, b], .agg #[er, at']])) W) : bodyPost Tryd.prog Tryd.f44 R .ret ac W :=
  bodyPost_ret (results_odec h2 h3 b2 b3) hd hR

set_option maxHeartbeats 4000000 in
set_option maxRecDepth 100000 in
theorem odecode_short (s : ByteArray) (w : World) (hs : s.size ≤ 16) :
    Calls Tryd.prog 44 #[.string s] w fun e w' => e = .returned (decA s.data.toList).v ∧ Below w.heap.size w w' := by
  have h16 : decide ((16 : Int) < s.size) = false := by simp; omega
  go_enter Tryd.func44, Tryd.ntmps44
  go_wp2_with fail
  have HV : Hid (OV w.heap.size (w.heap.size + 1) (w.heap.size + 1 + 1) s 0 true w (((w.alloc (.cells #[.int .i64 0, .int .i64 0, .int .i64 0, .int .i64 0] 68)).alloc (.cells #[.int .i64 0, .int .i64 0] 70)).alloc (.cells #[.string s, .int .i64 0, .bool false] 110))) := by
    have h3 := Bl.new ((w.alloc (.cells #[.int .i64 0, .int .i64 0, .int .i64 0, .int .i64 0] 68)).alloc (.cells #[.int .i64 0, .int .i64 0] 70)) #[.string s, .int .i64 0, .bool false] 110
    have h2 := Bl.new (w.alloc (.cells #[.int .i64 0, .int .i64 0, .int .i64 0, .int .i64 0] 68)) #[.int .i64 0, .int .i64 0] 70
    have h1 := Bl.new w #[.int .i64 0, .int .i64 0, .int .i64 0, .int .i64 0] 68
    simp only [World.size_alloc] at h2 h3
    exact ⟨h3, (h1.alloc _).alloc _, h2.alloc _, (((Below.refl _ _).alloc (Nat.le_refl _) _).alloc (by simp) _).alloc (by simp; omega) _, Nat.le_refl _, by omega, by omega⟩
  generalize ((w.alloc (.cells #[.int .i64 0, .int .i64 0, .int .i64 0, .int .i64 0] 68)).alloc (.cells #[.int .i64 0, .int .i64 0] 70)).alloc (.cells #[.string s, .int .i64 0, .bool false] 110) = X at *
  have hlt23 : w.heap.size < w.heap.size + 1 := by omega
  generalize hB2 : w.heap.size = B2 at *
  have HB2 := Lib.hid hB2
  clear hB2
  generalize hbr : B2 + 1 + 1 = br at *
  generalize hB3 : B2 + 1 = B3 at *
  clear hbr hB3
  have b1 := dR1_b s.data.toList
  have b2 := dR2_b s.data.toList
  have b7 := rd_bound s.data.toList hexL (dR6 s.data.toList).2.1 (dR6 s.data.toList).2.2 16 rfl
  have b8 := rd_bound s.data.toList hexL (dR7 s.data.toList).2.1 (dR7 s.data.toList).2.2 16 rfl
  change 0 ≤ (dR7 s.data.toList).1 ∧ (dR7 s.data.toList).1 ≤ (16 : Nat) at b7
  change 0 ≤ (dR8 s.data.toList).1 ∧ (dR8 s.data.toList).1 ≤ (16 : Nat) at b8
  refine (ro_ov HV.out hs _ (by decide) (dR0 s.data.toList) rfl).mono ?_
  rintro e w1 ⟨rfl, hV1, -⟩
  clear HV
  go_wp2_with fail
  refine (ro_ov hV1 hs _ (by decide) (dR1 s.data.toList) rfl).mono ?_
  rintro e w2 ⟨rfl, hV2, -⟩
  clear hV1
  go_wp2_with fail
  have hV2' := hV2.alloc (.cells #[.int .i64 (1 + (dR1 s.data.toList).1), .int .i64 0, .int .i64 0, .int .i64 0] 68)
  have hF := Bl.new w2 #[.int .i64 (1 + (dR1 s.data.toList).1), .int .i64 0, .int .i64 0, .int .i64 0] 68
  have hlf := hV2.rd.lt
  clear hV2
  generalize w2.alloc (.cells #[.int .i64 (1 + (dR1 s.data.toList).1), .int .i64 0, .int .i64 0, .int .i64 0] 68) = X2 at *
  generalize w2.heap.size = bf at *
  refine (ro_ov hV2' hs _ (by decide) (dR2 s.data.toList) rfl).mono ?_
  rintro e w3 ⟨rfl, hV3, hg3⟩
  have hF3 := hF.grown hg3 (by intro e; cases e; omega)
  have c1 := hF3.cell 1
  have f1 := hF3.fr 1
  clear hV2' hF hg3
  go_wp2_with fail
  have hV3' := hV3.set bf 1 (.int .i64 (1 + (dR2 s.data.toList).1)) hlf
  have hF3' : Bl bf #[.int .i64 (1 + (dR1 s.data.toList).1), .int .i64 (1 + (dR2 s.data.toList).1), .int .i64 0, .int .i64 0] 68 (w3.setCell ⟨bf, 1, none⟩ (.int .i64 (1 + (dR2 s.data.toList).1))) := hF3.set 1 _
  clear hV3 hF3 c1 f1
  generalize w3.setCell ⟨bf, 1, none⟩ (.int .i64 (1 + (dR2 s.data.toList).1)) = X3 at *
  refine (ronum_ov hV3' hs (dR3 s.data.toList) rfl).mono ?_
  rintro e w4 ⟨rfl, hV4, hg4⟩
  have hF4 := hF3'.grown hg4 (by intro e; cases e; omega)
  have c2 := hF4.cell 2
  have f2 := hF4.fr 2
  clear hV3' hF3' hg4
  go_wp2_with fail
  have hV4' := hV4.set bf 2 (.int .i64 (dR3 s.data.toList).1) hlf
  have hF4' : Bl bf #[.int .i64 (1 + (dR1 s.data.toList).1), .int .i64 (1 + (dR2 s.data.toList).1), .int .i64 (dR3 s.data.toList).1, .int .i64 0] 68 (w4.setCell ⟨bf, 2, none⟩ (.int .i64 (dR3 s.data.toList).1)) := hF4.set 2 _
  clear hV4 hF4 c2 f2
  generalize w4.setCell ⟨bf, 2, none⟩ (.int .i64 (dR3 s.data.toList).1) = X4 at *
  refine (ro_ov hV4' hs _ (by decide) (dR4 s.data.toList) rfl).mono ?_
  rintro e w5 ⟨rfl, hV5, hg5⟩
  have hF5 := hF4'.grown hg5 (by intro e; cases e; omega)
  clear hV4' hF4' hg5
  go_wp2_with fail
  refine (ronum_ov hV5 hs (dR5 s.data.toList) rfl).mono ?_
  rintro e w6 ⟨rfl, hV6, hg6⟩
  have hF6 := hF5.grown hg6 (by intro e; cases e; omega)
  have c3 := hF6.cell 3
  have f3 := hF6.fr 3
  clear hV5 hF5 hg6
  go_wp2_with fail
  have hV6' := hV6.set bf 3 (.int .i64 (dR5 s.data.toList).1) hlf
  have hF6' : Bl bf #[.int .i64 (1 + (dR1 s.data.toList).1), .int .i64 (1 + (dR2 s.data.toList).1), .int .i64 (dR3 s.data.toList).1, .int .i64 (dR5 s.data.toList).1] 68 (w6.setCell ⟨bf, 3, none⟩ (.int .i64 (dR5 s.data.toList).1)) := hF6.set 3 _
  clear hV6 hF6 c3 f3
  generalize w6.setCell ⟨bf, 3, none⟩ (.int .i64 (dR5 s.data.toList).1) = X6 at *
  refine (ro_ov hV6' hs _ (by decide) (dR6 s.data.toList) rfl).mono ?_
  rintro e w7 ⟨rfl, hV7, hg7⟩
  have hF7 := hF6'.grown hg7 (by intro e; cases e; omega)
  have cp := hV7.rd.c1
  clear hV6' hF6' hg7
  go_wp2_with fail
  refine (ro_ov hV7 hs _ (by decide) (dR7 s.data.toList) rfl).mono ?_
  rintro e w8 ⟨rfl, hV8, hg8⟩
  have hF8 := hF7.grown hg8 (by intro e; cases e; omega)
  clear hV7 hF7 hg8 cp
  go_wp2_with fail
  refine (ro_ov hV8 hs _ (by decide) (dR8 s.data.toList) rfl).mono ?_
  rintro e w9 ⟨rfl, hV9, hg9⟩
  have hF9 := hF8.grown hg9 (by intro e; cases e; omega)
  clear hV8 hF8 hg9
  go_wp2_with fail
  refine (ro_ov hV9 hs _ (by decide) (dR9 s.data.toList) rfl).mono ?_
  rintro e w10 ⟨rfl, hV10, hg10⟩
  have hF10 := hF9.grown hg10 (by intro e; cases e; omega)
  clear hV9 hF9 hg10
  have cp := hV10.rd.c1
  have cok := hV10.rd.c2
  have g0 := hV10.r2.fr
  have g1 := hV10.r3.fr
  have q0 := hV10.r2.cell
  have q1 := hV10.r3.cell
  have m3 := hV10.n3
  have n23 : ¬ B2 = B3 := by omega
  have n32 : ¬ B3 = B2 := by omega
  have n2r : ¬ B2 = br := by omega
  have n3r : ¬ B3 = br := by omega
  have nr2 : ¬ br = B2 := by omega
  have nr3 : ¬ br = B3 := by omega
  have hL : s.data.toList.length = s.size := by simp
  have h0 : Hid (w.heap.size ≤ B2) := hV10.n1
  cases h9 : (dR9 s.data.toList).2.2 with
  | false =>
    have HD : Hid (decA s.data.toList = ⟨0, 0, 0, 0, 3, (dR9 s.data.toList).2.1⟩) := by show _ = _; rw [decA, if_pos h9]
    rw [h9] at cok
    simp only [Bool.not_false] at cok
    clear h9
    go_wp2_with fail
    go_region
    go_wp2
    obtain ⟨e1, e2, e3⟩ := dec_store2 hV10.r2 hV10.r3 hV10.bel h0.out hlt23 (.int .i64 0) (.int .i64 0) (.int .i64 0) (.int .i64 0) (.int .i64 3) (.int .i64 (dR9 s.data.toList).2.1)
    refine odec_ret rfl rfl rfl e1.drew e2.drew ⟨?_, e3.drew⟩
    rw [HD.out]; rfl
  | true =>
    obtain ⟨g3, g4, g5⟩ := dR9_ok h9
    have hsn := sum_num h9 (crc ((s.data.toList.drop 1).take ((dR6 s.data.toList).2.1 - 1)))
    rw [h9] at cok
    simp only [Bool.not_true] at cok
    have x1 : (1 : Int) ≤ (dR6 s.data.toList).2.1 := by omega
    have x2 : ((dR6 s.data.toList).2.1 : Int) ≤ s.size := by omega
    have hsm : (s.extract 1 (dR6 s.data.toList).2.1).size ≤ maxLen := by
      rw [ByteArray.size, ← Array.length_toList, extract_list]; simp; unfold maxLen; omega
    have hcs : ∀ W, Calls Tryd.prog 75 #[.string (s.extract 1 (dR6 s.data.toList).2.1)] W fun e w' => e = .returned (.int .u8 (bn (crc ((s.data.toList.drop 1).take ((dR6 s.data.toList).2.1 - 1))))) ∧ W = w' := fun W => by
      have := refSum_any (s.extract 1 (dR6 s.data.toList).2.1) W hsm
      rw [extract_list] at this; exact this
    have hcb := bn_lt (crc ((s.data.toList.drop 1).take ((dR6 s.data.toList).2.1 - 1)))
    have hcn := bn_nonneg (crc ((s.data.toList.drop 1).take ((dR6 s.data.toList).2.1 - 1)))
    generalize hcc : crc ((s.data.toList.drop 1).take ((dR6 s.data.toList).2.1 - 1)) = c at *
    have HDs : Hid (16 * (dR7 s.data.toList).1 + (dR8 s.data.toList).1 ≠ bn c → decA s.data.toList = ⟨0, 0, 0, 0, 10, (dR6 s.data.toList).2.1⟩) := fun hx => decA_sum h9 (by rw [hcc]; exact fun e => hx (hsn.1 e))
    have HDl : Hid (16 * (dR7 s.data.toList).1 + (dR8 s.data.toList).1 = bn c → (dR9 s.data.toList).2.1 < s.size → decA s.data.toList = ⟨0, 0, 0, 0, 3, (dR9 s.data.toList).2.1⟩) := fun hx hl => decA_long h9 (by rw [hcc]; simp only [ne_eq, Decidable.not_not]; exact hsn.2 hx) (by omega)
    have HDg : Hid (16 * (dR7 s.data.toList).1 + (dR8 s.data.toList).1 = bn c → ¬ (dR9 s.data.toList).2.1 < s.size → decA s.data.toList = ⟨1 + (dR1 s.data.toList).1, 1 + (dR2 s.data.toList).1, (dR3 s.data.toList).1, (dR5 s.data.toList).1, 0, 0⟩) := fun hx hl => decA_good h9 (by rw [hcc]; simp only [ne_eq, Decidable.not_not]; exact hsn.2 hx) (by omega)
    clear hsn hcc h9 hL
    have HO2 := Lib.hid hV10.r2
    have HO3 := Lib.hid hV10.r3
    have HOb := Lib.hid hV10.bel
    have HFf := Lib.hid hF10
    have qf := hF10.cell
    clear hV10 hF10 g4
    generalize (dR9 s.data.toList).2.1 = P9 at *
    generalize (dR9 s.data.toList).1 = D9 at *
    generalize (dR6 s.data.toList).2.1 = P6 at *
    generalize (dR7 s.data.toList).1 = D7 at *
    generalize (dR8 s.data.toList).1 = D8 at *
    generalize (dR1 s.data.toList).1 = D1 at *
    generalize (dR2 s.data.toList).1 = D2 at *
    generalize (dR3 s.data.toList).1 = D3 at *
    generalize (dR5 s.data.toList).1 = D5 at *
    generalize bn c = cn at *
    by_cases hx : 16 * D7 + D8 = cn
    · have hx' : (16 * D7 + D8 != cn) = false := by simpa using hx
      by_cases hl : P9 < s.size
      · have HD := Lib.hid (HDl.out hx hl)
        have hl2 : decide (P9 < s.size) = true := by simpa using hl
        clear hx hl
        go_wp2_with (go_at_call 75; refine (hcs _).mono ?_; rintro e w11 ⟨rfl, rfl⟩)
        go_region
        go_wp2
        obtain ⟨e1, e2, e3⟩ := dec_store2 HO2.out HO3.out HOb.out h0.out hlt23 (.int .i64 0) (.int .i64 0) (.int .i64 0) (.int .i64 0) (.int .i64 3) (.int .i64 P9)
        refine odec_ret rfl rfl rfl e1.drew e2.drew ⟨?_, e3.drew⟩
        rw [HD.out]; rfl
      · have HD := Lib.hid (HDg.out hx hl)
        have hl2 : decide (P9 < s.size) = false := by simpa using hl
        clear hx hl
        go_wp2_with (go_at_call 75; refine (hcs _).mono ?_; rintro e w11 ⟨rfl, rfl⟩)
        obtain ⟨e1, e2, e3⟩ := dec_store2 HO2.out HO3.out HOb.out h0.out hlt23 (.int .i64 (1 + D1)) (.int .i64 (1 + D2)) (.int .i64 D3) (.int .i64 D5) (.int .i64 0) (.int .i64 0)
        refine odec_ret rfl rfl rfl e1 e2 ⟨?_, e3⟩
        rw [HD.out]; rfl
    · have hx' : (16 * D7 + D8 != cn) = true := by simpa using hx
      have HD := Lib.hid (HDs.out hx)
      clear hx
      go_wp2_with (go_at_call 75; refine (hcs _).mono ?_; rintro e w11 ⟨rfl, rfl⟩)
      obtain ⟨e1, e2, e3⟩ := dec_store2 HO2.out HO3.out HOb.out h0.out hlt23 (.int .i64 0) (.int .i64 0) (.int .i64 0) (.int .i64 0) (.int .i64 10) (.int .i64 P6)
      refine odec_ret rfl rfl rfl e1 e2 ⟨?_, e3⟩
      rw [HD.out]; rfl
/-- What the reference's 'Decode' answers: what the program's answers. -/
theorem odecode_any (s : ByteArray) (w : World) : Calls Tryd.prog 44 #[.string s] w fun e w' => e = .returned (decS s.data.toList).v ∧ Below w.heap.size w w' := by
  have hL : s.data.toList.length = s.size := by simp
  by_cases h : 16 < s.size
  · have e : decS s.data.toList = ⟨0, 0, 0, 0, 4, 16⟩ := by rw [decS, if_pos (by omega)]
    rw [e]
    have h16 : decide ((16 : Int) < s.size) = true := by simp; omega
    clear h hL e
    go_enter Tryd.func44, Tryd.ntmps44
    go_wp2_with fail
    refine odec_ret rfl rfl rfl (t := .int .i64 0) (k := .int .i64 0) (a := .int .i64 0) (b := .int .i64 0) (er := .int .i64 4) (at' := .int .i64 16) ?_ ?_ ⟨rfl, ?_⟩
    · exact (Bl.new w _ 68).alloc _
    · have := Bl.new (w.alloc (.cells #[.int .i64 0, .int .i64 0, .int .i64 0, .int .i64 0] 68)) #[.int .i64 4, .int .i64 16] 70
      rw [World.size_alloc] at this; exact this
    · exact ((Below.refl _ _).alloc (Nat.le_refl _) _).alloc (by simp) _
  · rw [decS_decA _ (by omega)]
    exact odecode_short s w (by omega)

end Go.Proofs.YtaipifjmkbcjjaaDoor
