/- Plain words: what is found in streams that are put together. -/
import Derived.Test.YtaipifjmkbcjjaaDoorOs
import Derived.Test.YtaipifjmkbcjjaaDoorMk
namespace Go.Proofs.YtaipifjmkbcjjaaDoor

theorem endF_app (v : List UInt8) : ∀ (u : List UInt8) (n : Nat), endF (u ++ 60 :: v) n = endF u n
  | [], n => by simp [endF]
  | b :: u, n => by
    show (if b = 60 then 0 else if b = 62 then n + 1 else endF (u ++ 60 :: v) (n + 1)) = (if b = 60 then 0 else if b = 62 then n + 1 else endF u (n + 1))
    rw [endF_app v u]

theorem oneS_ne (c : UInt8) (l : List UInt8) (h : c ≠ 60) : oneS (c :: l) = (fr0, 1) := by
  unfold oneS
  rw [if_pos (by simpa using h)]
theorem oneS_eq (l : List UInt8) : oneS (60 :: l) = if endF l 1 = 0 then (fr0, 1) else if (decS ((60 :: l).take (endF l 1))).er ≠ 0 then (fr0, 1)
    else (let d := decS ((60 :: l).take (endF l 1)); (⟨d.t, d.k, d.a, d.b⟩, endF l 1)) := by
  rw [oneS_R _ (by simp), oneR_end _ rfl]; rfl

theorem oneS_app (c : UInt8) (u v : List UInt8) : oneS (c :: (u ++ 60 :: v)) = oneS (c :: u) := by
  by_cases h : c = 60
  · subst h
    have hl := endF_le u 1
    rw [oneS_eq, oneS_eq, endF_app]
    have e : (60 :: (u ++ 60 :: v)).take (endF u 1) = (60 :: u).take (endF u 1) := by
      show ((60 :: u) ++ 60 :: v).take _ = _
      rw [List.take_append_of_le_length (by simp; omega)]
    rw [e]
  · rw [oneS_ne _ _ h, oneS_ne _ _ h]

theorem items_app (v : List UInt8) : ∀ (m : Nat) (s : List UInt8), s.length ≤ m → items (s ++ 60 :: v) = items s ++ items (60 :: v) := by
  intro m
  induction m with
  | zero => intro s h; obtain rfl := List.length_eq_zero_iff.1 (by omega : s.length = 0); rfl
  | succ m ih =>
    intro s h
    cases s with
    | nil => rfl
    | cons c u =>
      have hp := oneS_pos (c :: u) (by simp)
      rw [items_cons ((c :: u) ++ 60 :: v) (by simp), items_cons (c :: u) (by simp)]
      show oneS (c :: (u ++ 60 :: v)) :: items (((c :: u) ++ 60 :: v).drop (oneS (c :: (u ++ 60 :: v))).2) = _
      rw [oneS_app, List.drop_append_of_le_length hp.2, ih _ (by rw [List.length_drop]; simp at h ⊢; omega)]
      rfl

/-- Bytes none of which begins a frame. -/
theorem items_junk (v : List UInt8) : ∀ (g : List UInt8), (∀ c ∈ g, c ≠ 60) → items (g ++ v) = List.replicate g.length (fr0, 1) ++ items v
  | [], _ => rfl
  | c :: g, h => by
    rw [items_cons ((c :: g) ++ v) (by simp)]
    show oneS (c :: (g ++ v)) :: items ((c :: (g ++ v)).drop (oneS (c :: (g ++ v))).2) = _
    rw [oneS_ne _ _ (h c (by simp))]
    show (fr0, 1) :: items (g ++ v) = _
    rw [items_junk v g (fun x hx => h x (by simp [hx]))]
    rfl

theorem endF_skip (v : List UInt8) : ∀ (u : List UInt8) (n : Nat), (∀ c ∈ u, c ≠ 60 ∧ c ≠ 62) → endF (u ++ 62 :: v) n = n + u.length + 1
  | [], n, _ => by simp [endF]
  | b :: u, n, h => by
    have hb := h b (by simp)
    show (if b = 60 then 0 else if b = 62 then n + 1 else endF (u ++ 62 :: v) (n + 1)) = _
    rw [if_neg hb.1, if_neg hb.2, endF_skip v u _ (fun c hc => h c (by simp [hc]))]
    simp; omega

theorem hexd_in (n : Nat) : hexd n ≠ 60 ∧ hexd n ≠ 62 := by
  have h : ∀ n : Fin 16, hexd n.val ≠ 60 ∧ hexd n.val ≠ 62 := by decide
  by_cases hn : n < 16
  · exact h ⟨n, hn⟩
  · have : hexd n = 0 := by unfold hexd; rw [List.getD_eq_getElem?_getD, List.getElem?_eq_none (by simp; omega)]; rfl
    rw [this]; decide
theorem digs_in (n : Nat) (hn : n ≤ 99) : ∀ c ∈ digs n, c ≠ 60 ∧ c ≠ 62 := by
  have h : ∀ n : Fin 100, ∀ c ∈ digs n.val, c ≠ 60 ∧ c ≠ 62 := by decide
  exact h ⟨n, by omega⟩
theorem tag_in (t : Int) : tagB t ≠ 60 ∧ tagB t ≠ 62 := by
  unfold tagB
  rcases (t - 1).toNat with _ | _ | _ | n <;> simp <;> decide
theorem kind_in (t : Int) : kindB t ≠ 60 ∧ kindB t ≠ 62 := by
  unfold kindB
  rcases (t - 1).toNat with _ | _ | _ | _ | n <;> simp <;> decide

/-- A form: a '<', no other angle bracket, a '>'. -/
theorem form_in {t k a b : Int} (h : chk t k a b = 0) : ∃ u, form t k a b = 60 :: (u ++ [62]) ∧ (∀ c ∈ u, c ≠ 60 ∧ c ≠ 62) := by
  have ho := chk_ok h
  refine ⟨pay t k a b ++ hexS (crc (pay t k a b)), by simp [form], ?_⟩
  intro c hc
  rw [List.mem_append] at hc
  rcases hc with hc | hc
  · unfold pay at hc
    simp only [List.mem_cons, List.mem_append, List.not_mem_nil, or_false] at hc
    rcases hc with rfl | rfl | hc | rfl | hc | rfl
    · exact tag_in t
    · exact kind_in k
    · exact digs_in _ (by omega) _ hc
    · decide
    · exact digs_in _ (by omega) _ hc
    · decide
  · unfold hexS at hc
    simp only [List.mem_cons, List.not_mem_nil, or_false] at hc
    rcases hc with rfl | rfl <;> exact hexd_in _

theorem items_form (f : Fr) (h : chk f.t f.k f.a f.b = 0) (v : List UInt8) : items (form f.t f.k f.a f.b ++ v) = (f, (form f.t f.k f.a f.b).length) :: items v := by
  obtain ⟨u, hu, hin⟩ := form_in h
  have hd := form_dec h
  have hone : oneS (form f.t f.k f.a f.b ++ v) = (f, (form f.t f.k f.a f.b).length) := by
    rw [hu] at hd ⊢
    have e0 : (60 :: (u ++ [62])) ++ v = 60 :: (u ++ 62 :: v) := by simp
    have e1 : endF (u ++ 62 :: v) 1 = (60 :: (u ++ [62])).length := by rw [endF_skip v u 1 hin]; simp; omega
    have e2 : (60 :: (u ++ 62 :: v)).take (60 :: (u ++ [62])).length = 60 :: (u ++ [62]) := by rw [← e0, List.take_left]
    rw [e0, oneS_eq, e1, e2, hd, if_neg (by simp), if_neg (by simp)]
  have hl := form_len f.t f.k f.a f.b
  rw [items_cons _ (by rw [List.length_append]; omega), hone]
  show _ :: items ((form f.t f.k f.a f.b ++ v).drop (form f.t f.k f.a f.b).length) = _
  rw [List.drop_left]

theorem framesOf_app (xs ys : List (Fr × Nat)) : framesOf (xs ++ ys) = framesOf xs ++ framesOf ys := by simp [framesOf]
theorem junkOf_app (xs ys : List (Fr × Nat)) : junkOf (xs ++ ys) = junkOf xs + junkOf ys := by simp [junkOf]
theorem framesOf_cons (x : Fr × Nat) (ys : List (Fr × Nat)) (h : 1 < x.2) : framesOf (x :: ys) = x.1 :: framesOf ys := by
  have : (1 : Int) < (x.2 : Int) := by omega
  simp [framesOf, this]
theorem junkOf_cons (x : Fr × Nat) (ys : List (Fr × Nat)) (h : 1 < x.2) : junkOf (x :: ys) = junkOf ys := by
  have : (1 : Int) < (x.2 : Int) := by omega
  simp [junkOf, this]
theorem framesOf_rep (n : Nat) : framesOf (List.replicate n ((fr0, 1) : Fr × Nat)) = [] := by
  induction n with
  | zero => rfl
  | succ n ih => rw [List.replicate_succ]; simp [framesOf]
theorem junkOf_rep (n : Nat) : junkOf (List.replicate n ((fr0, 1) : Fr × Nat)) = n := by
  induction n with
  | zero => rfl
  | succ n ih =>
    rw [List.replicate_succ]
    have := junkOf_miss [] ((fr0, 1) : Fr × Nat) (by simp)
    show junkOf ([(fr0, 1)] ++ List.replicate n (fr0, 1)) = _
    rw [junkOf_app, ih]
    have e : junkOf [((fr0, 1) : Fr × Nat)] = 1 := rfl
    rw [e]; omega

/-- What a step is: one byte of garbage, or a frame and its form's length. -/
theorem oneS_is (L : List UInt8) (h : 0 < L.length) : (oneS L).2 = 1 ∨ (chk (oneS L).1.t (oneS L).1.k (oneS L).1.a (oneS L).1.b = 0 ∧ (form (oneS L).1.t (oneS L).1.k (oneS L).1.a (oneS L).1.b).length = (oneS L).2) := by
  cases L with
  | nil => simp at h
  | cons c l =>
    by_cases hc : c = 60
    · subst hc
      rw [oneS_eq]
      by_cases h1 : endF l 1 = 0
      · rw [if_pos h1]; left; rfl
      · rw [if_neg h1]
        by_cases h2 : (decS ((60 :: l).take (endF l 1))).er ≠ 0
        · rw [if_pos h2]; left; rfl
        · rw [if_neg h2]
          right
          simp only [ne_eq, Decidable.not_not] at h2
          obtain ⟨h3, h4⟩ := decS_form h2
          have hl := endF_le l 1
          refine ⟨h4, ?_⟩
          simp only []
          rw [← h3, List.length_take]
          simp; omega
    · rw [oneS_ne _ _ hc]; left; rfl

/-- The length of a frame's form. -/
def fl (f : Fr) : Nat := (form f.t f.k f.a f.b).length
def okF (f : Fr) : Prop := chk f.t f.k f.a f.b = 0

theorem items_sum : ∀ (m : Nat) (L : List UInt8), L.length ≤ m → junkOf (items L) + ((framesOf (items L)).map fl).sum = L.length ∧ ∀ f ∈ framesOf (items L), okF f := by
  intro m
  induction m with
  | zero => intro L h; obtain rfl := List.length_eq_zero_iff.1 (by omega : L.length = 0); exact ⟨rfl, fun f hf => by cases hf⟩
  | succ m ih =>
    intro L h
    cases L with
    | nil => exact ⟨rfl, fun f hf => by cases hf⟩
    | cons c l =>
      have hp := oneS_pos (c :: l) (by simp)
      have hi := oneS_is (c :: l) (by simp)
      obtain ⟨i1, i2⟩ := ih ((c :: l).drop (oneS (c :: l)).2) (by rw [List.length_drop]; simp at h ⊢; omega)
      rw [List.length_drop] at i1
      rw [items_cons (c :: l) (by simp)]
      generalize oneS (c :: l) = x at *
      generalize items ((c :: l).drop x.2) = ys at *
      by_cases h1 : 1 < x.2
      · rw [framesOf_cons x ys h1, junkOf_cons x ys h1]
        rcases hi with hi | hi
        · omega
        · refine ⟨?_, ?_⟩
          · rw [List.map_cons, List.sum_cons]
            have : fl x.1 = x.2 := hi.2
            omega
          · intro f hf
            rcases List.mem_cons.1 hf with rfl | hf
            · exact hi.1
            · exact i2 f hf
      · have e1 : framesOf (x :: ys) = framesOf ys := by
          have : ¬ (1 : Int) < (x.2 : Int) := by omega
          simp [framesOf, this]
        have e2 : junkOf (x :: ys) = 1 + junkOf ys := by
          have := junkOf_miss [] x (by omega)
          show junkOf ([x] ++ ys) = _
          rw [junkOf_app]
          have e : junkOf [x] = 1 := by simpa [junkOf] using this
          rw [e]
        rw [e1, e2]
        exact ⟨by omega, i2⟩

theorem items_sums (f : Fr) (h : okF f) (s t : List UInt8) : items (s ++ (form f.t f.k f.a f.b ++ t)) = items (s ++ form f.t f.k f.a f.b) ++ items t ∧
    items (s ++ form f.t f.k f.a f.b) = items s ++ [(f, fl f)] := by
  obtain ⟨u, hu, -⟩ := form_in h
  have e1 : items (s ++ form f.t f.k f.a f.b) = items s ++ [(f, fl f)] := by
    have := items_form f h []
    rw [List.append_nil] at this
    have h2 := items_app (u ++ [62]) s.length s (Nat.le_refl _)
    rw [← hu, this] at h2
    rw [h2]; rfl
  refine ⟨?_, e1⟩
  have h2 := items_app (u ++ [62] ++ t) s.length s (Nat.le_refl _)
  have e : 60 :: (u ++ [62] ++ t) = form f.t f.k f.a f.b ++ t := by rw [hu]; simp
  rw [e, items_form f h t] at h2
  rw [h2, e1]; simp [fl]
end Go.Proofs.YtaipifjmkbcjjaaDoor
