/- Plain words: what is found in streams that are put together. -/
import Derived.Test.YtaipifjmkbcjjaaDoorZOs
import Derived.Test.YtaipifjmkbcjjaaDoorZMk
import Derived.Test.YtaipifjmkbcjjaaDoorZLy
import Derived.Test.YtaipifjmkbcjjaaDoorZSf
namespace Go.Proofs.YtaipifjmkbcjjaaDoor

theorem endF_app (v : List UInt8) : ∀ (u : List UInt8) (n : Nat), endF (u ++ 60 :: v) n = endF u n
  | [], n => by simp [endF]
  | b :: u, n => by
    show (if b = 60 then 0 else if b = 62 then n + 1 else endF (u ++ 60 :: v) (n + 1)) = (if b = 60 then 0 else if b = 62 then n + 1 else endF u (n + 1))
    rw [endF_app v u]

theorem oneS_ne (c : UInt8) (l : List UInt8) (h : c ≠ 60) : oneS (c :: l) = (fr0, 1) := by
  unfold oneS
  rw [if_pos (by simpa using h)]
theorem oneS_eq (l : List UInt8) : oneS (60 :: l) = if endF l 1 = 0 then (fr0, 1) else if (decS ((60 :: l).take (endF l 1))).er ≠ 0 then (fr0, 1)
    else (let d := decS ((60 :: l).take (endF l 1)); (⟨d.t, d.k, d.a, d.b⟩, endF l 1)) := by
  rw [oneS_R _ (by simp), oneR_end _ rfl]; rfl

theorem oneS_app (c : UInt8) (u v : List UInt8) : oneS (c :: (u ++ 60 :: v)) = oneS (c :: u) := by
  by_cases h : c = 60
  · subst h
    have hl := endF_le u 1
    rw [oneS_eq, oneS_eq, endF_app]
    have e : (60 :: (u ++ 60 :: v)).take (endF u 1) = (60 :: u).take (endF u 1) := by
      show ((60 :: u) ++ 60 :: v).take _ = _
      rw [List.take_append_of_le_length (by simp; omega)]
    rw [e]
  · rw [oneS_ne _ _ h, oneS_ne _ _ h]

theorem items_app (v : List UInt8) : ∀ (m : Nat) (s : List UInt8), s.length ≤ m → items (s ++ 60 :: v) = items s ++ items (60 :: v) := by
  intro m
  induction m with
  | zero => intro s h; obtain rfl := List.length_eq_zero_iff.1 (by omega : s.length = 0); rfl
  | succ m ih =>
    intro s h
    cases s with
    | nil => rfl
    | cons c u =>
      have hp := oneS_pos (c :: u) (by simp)
      rw [items_cons ((c :: u) ++ 60 :: v) (by simp), items_cons (c :: u) (by simp)]
      show oneS (c :: (u ++ 60 :: v)) :: items (((c :: u) ++ 60 :: v).drop (oneS (c :: (u ++ 60 :: v))).2) = _
      rw [oneS_app, List.drop_append_of_le_length hp.2, ih _ (by rw [List.length_drop]; simp at h ⊢; omega)]
      rfl

/-- Bytes none of which begins a frame. -/
theorem items_junk (v : List UInt8) : ∀ (g : List UInt8), (∀ c ∈ g, c ≠ 60) → items (g ++ v) = List.replicate g.length (fr0, 1) ++ items v
  | [], _ => rfl
  | c :: g, h => by
    rw [items_cons ((c :: g) ++ v) (by simp)]
    show oneS (c :: (g ++ v)) :: items ((c :: (g ++ v)).drop (oneS (c :: (g ++ v))).2) = _
    rw [oneS_ne _ _ (h c (by simp))]
    show (fr0, 1) :: items (g ++ v) = _
    rw [items_junk v g (fun x hx => h x (by simp [hx]))]
    rfl

theorem endF_skip (v : List UInt8) : ∀ (u : List UInt8) (n : Nat), (∀ c ∈ u, c ≠ 60 ∧ c ≠ 62) → endF (u ++ 62 :: v) n = n + u.length + 1
  | [], n, _ => by simp [endF]
  | b :: u, n, h => by
    have hb := h b (by simp)
    show (if b = 60 then 0 else if b = 62 then n + 1 else endF (u ++ 62 :: v) (n + 1)) = _
    rw [if_neg hb.1, if_neg hb.2, endF_skip v u _ (fun c hc => h c (by simp [hc]))]
    simp; omega

theorem hexd_in (n : Nat) : hexd n ≠ 60 ∧ hexd n ≠ 62 := by
  have h : ∀ n : Fin 16, hexd n.val ≠ 60 ∧ hexd n.val ≠ 62 := by decide
  by_cases hn : n < 16
  · exact h ⟨n, hn⟩
  · have : hexd n = 0 := by unfold hexd; rw [List.getD_eq_getElem?_getD, List.getElem?_eq_none (by simp; omega)]; rfl
    rw [this]; decide
theorem digs_in (n : Nat) (hn : n ≤ 99) : ∀ c ∈ digs n, c ≠ 60 ∧ c ≠ 62 := by
  have h : ∀ n : Fin 100, ∀ c ∈ digs n.val, c ≠ 60 ∧ c ≠ 62 := by decide
  exact h ⟨n, by omega⟩
theorem tag_in (t : Int) : tagB t ≠ 60 ∧ tagB t ≠ 62 := by
  unfold tagB
  rcases (t - 1).toNat with _ | _ | _ | n <;> simp <;> decide
theorem kind_in (t : Int) : kindB t ≠ 60 ∧ kindB t ≠ 62 := by
  unfold kindB
  rcases (t - 1).toNat with _ | _ | _ | _ | n <;> simp <;> decide

/-- A form: a '<', no other angle bracket, a '>'. -/
theorem form_in {t k a b : Int} (h : chk t k a b = 0) : ∃ u, form t k a b = 60 :: (u ++ [62]) ∧ (∀ c ∈ u, c ≠ 60 ∧ c ≠ 62) := by
  have ho := chk_ok h
  refine ⟨pay t k a b ++ hexS (crc (pay t k a b)), by simp [form], ?_⟩
  intro c hc
  rw [List.mem_append] at hc
  rcases hc with hc | hc
  · unfold pay at hc
    simp only [List.mem_cons, List.mem_append, List.not_mem_nil, or_false] at hc
    rcases hc with rfl | rfl | hc | rfl | hc | rfl
    · exact tag_in t
    · exact kind_in k
    · exact digs_in _ (by omega) _ hc
    · decide
    · exact digs_in _ (by omega) _ hc
    · decide
  · unfold hexS at hc
    simp only [List.mem_cons, List.not_mem_nil, or_false] at hc
    rcases hc with rfl | rfl <;> exact hexd_in _

theorem items_form (f : Fr) (h : chk f.t f.k f.a f.b = 0) (v : List UInt8) : items (form f.t f.k f.a f.b ++ v) = (f, (form f.t f.k f.a f.b).length) :: items v := by
  obtain ⟨u, hu, hin⟩ := form_in h
  have hd := form_dec h
  have hone : oneS (form f.t f.k f.a f.b ++ v) = (f, (form f.t f.k f.a f.b).length) := by
    rw [hu] at hd ⊢
    have e0 : (60 :: (u ++ [62])) ++ v = 60 :: (u ++ 62 :: v) := by simp
    have e1 : endF (u ++ 62 :: v) 1 = (60 :: (u ++ [62])).length := by rw [endF_skip v u 1 hin]; simp; omega
    have e2 : (60 :: (u ++ 62 :: v)).take (60 :: (u ++ [62])).length = 60 :: (u ++ [62]) := by rw [← e0, List.take_left]
    rw [e0, oneS_eq, e1, e2, hd, if_neg (by simp), if_neg (by simp)]
  have hl := form_len f.t f.k f.a f.b
  rw [items_cons _ (by rw [List.length_append]; omega), hone]
  show _ :: items ((form f.t f.k f.a f.b ++ v).drop (form f.t f.k f.a f.b).length) = _
  rw [List.drop_left]

theorem framesOf_app (xs ys : List (Fr × Nat)) : framesOf (xs ++ ys) = framesOf xs ++ framesOf ys := by simp [framesOf]
theorem junkOf_app (xs ys : List (Fr × Nat)) : junkOf (xs ++ ys) = junkOf xs + junkOf ys := by simp [junkOf]
theorem framesOf_cons (x : Fr × Nat) (ys : List (Fr × Nat)) (h : 1 < x.2) : framesOf (x :: ys) = x.1 :: framesOf ys := by
  have : (1 : Int) < (x.2 : Int) := by omega
  simp [framesOf, this]
theorem junkOf_cons (x : Fr × Nat) (ys : List (Fr × Nat)) (h : 1 < x.2) : junkOf (x :: ys) = junkOf ys := by
  have : (1 : Int) < (x.2 : Int) := by omega
  simp [junkOf, this]
theorem framesOf_rep (n : Nat) : framesOf (List.replicate n ((fr0, 1) : Fr × Nat)) = [] := by
  induction n with
  | zero => rfl
  | succ n ih => rw [List.replicate_succ]; simp [framesOf]
theorem junkOf_rep (n : Nat) : junkOf (List.replicate n ((fr0, 1) : Fr × Nat)) = n := by
  induction n with
  | zero => rfl
  | succ n ih =>
    rw [List.replicate_succ]
    have := junkOf_miss [] ((fr0, 1) : Fr × Nat) (by simp)
    show junkOf ([(fr0, 1)] ++ List.replicate n (fr0, 1)) = _
    rw [junkOf_app, ih]
    have e : junkOf [((fr0, 1) : Fr × Nat)] = 1 := rfl
    rw [e]; omega

/-- What a step is: one byte of garbage, or a frame and its form's length. -/
theorem oneS_is (L : List UInt8) (h : 0 < L.length) : (oneS L).2 = 1 ∨ (chk (oneS L).1.t (oneS L).1.k (oneS L).1.a (oneS L).1.b = 0 ∧ (form (oneS L).1.t (oneS L).1.k (oneS L).1.a (oneS L).1.b).length = (oneS L).2) := by
  cases L with
  | nil => simp at h
  | cons c l =>
    by_cases hc : c = 60
    · subst hc
      rw [oneS_eq]
      by_cases h1 : endF l 1 = 0
      · rw [if_pos h1]; left; rfl
      · rw [if_neg h1]
        by_cases h2 : (decS ((60 :: l).take (endF l 1))).er ≠ 0
        · rw [if_pos h2]; left; rfl
        · rw [if_neg h2]
          right
          simp only [ne_eq, Decidable.not_not] at h2
          obtain ⟨h3, h4⟩ := decS_form h2
          have hl := endF_le l 1
          refine ⟨h4, ?_⟩
          simp only []
          rw [← h3, List.length_take]
          simp; omega
    · rw [oneS_ne _ _ hc]; left; rfl

/-- The length of a frame's form. -/
def fl (f : Fr) : Nat := (form f.t f.k f.a f.b).length
def okF (f : Fr) : Prop := chk f.t f.k f.a f.b = 0

theorem items_sum : ∀ (m : Nat) (L : List UInt8), L.length ≤ m → junkOf (items L) + ((framesOf (items L)).map fl).sum = L.length ∧ ∀ f ∈ framesOf (items L), okF f := by
  intro m
  induction m with
  | zero => intro L h; obtain rfl := List.length_eq_zero_iff.1 (by omega : L.length = 0); exact ⟨rfl, fun f hf => by cases hf⟩
  | succ m ih =>
    intro L h
    cases L with
    | nil => exact ⟨rfl, fun f hf => by cases hf⟩
    | cons c l =>
      have hp := oneS_pos (c :: l) (by simp)
      have hi := oneS_is (c :: l) (by simp)
      obtain ⟨i1, i2⟩ := ih ((c :: l).drop (oneS (c :: l)).2) (by rw [List.length_drop]; simp at h ⊢; omega)
      rw [List.length_drop] at i1
      rw [items_cons (c :: l) (by simp)]
      generalize oneS (c :: l) = x at *
      generalize items ((c :: l).drop x.2) = ys at *
      by_cases h1 : 1 < x.2
      · rw [framesOf_cons x ys h1, junkOf_cons x ys h1]
        rcases hi with hi | hi
        · omega
        · refine ⟨?_, ?_⟩
          · rw [List.map_cons, List.sum_cons]
            have : fl x.1 = x.2 := hi.2
            omega
          · intro f hf
            rcases List.mem_cons.1 hf with rfl | hf
            · exact hi.1
            · exact i2 f hf
      · have e1 : framesOf (x :: ys) = framesOf ys := by
          have : ¬ (1 : Int) < (x.2 : Int) := by omega
          simp [framesOf, this]
        have e2 : junkOf (x :: ys) = 1 + junkOf ys := by
          have := junkOf_miss [] x (by omega)
          show junkOf ([x] ++ ys) = _
          rw [junkOf_app]
          have e : junkOf [x] = 1 := by simpa [junkOf] using this
          rw [e]
        rw [e1, e2]
        exact ⟨by omega, i2⟩

theorem items_sums (f : Fr) (h : okF f) (s t : List UInt8) : items (s ++ (form f.t f.k f.a f.b ++ t)) = items (s ++ form f.t f.k f.a f.b) ++ items t ∧
    items (s ++ form f.t f.k f.a f.b) = items s ++ [(f, fl f)] := by
  obtain ⟨u, hu, -⟩ := form_in h
  have e1 : items (s ++ form f.t f.k f.a f.b) = items s ++ [(f, fl f)] := by
    have := items_form f h []
    rw [List.append_nil] at this
    have h2 := items_app (u ++ [62]) s.length s (Nat.le_refl _)
    rw [← hu, this] at h2
    rw [h2]; rfl
  refine ⟨?_, e1⟩
  have h2 := items_app (u ++ [62] ++ t) s.length s (Nat.le_refl _)
  have e : 60 :: (u ++ [62] ++ t) = form f.t f.k f.a f.b ++ t := by rw [hu]; simp
  rw [e, items_form f h t] at h2
  rw [h2, e1]; simp [fl]
end Go.Proofs.YtaipifjmkbcjjaaDoor

/- Walks: the forms of several frames together. -/
namespace Go.Proofs.YtaipifjmkbcjjaaDoor
open Go.RowKit Go.Sort

def formF (f : Fr) : List UInt8 := form f.t f.k f.a f.b
def chkF (f : Fr) : Int := chk f.t f.k f.a f.b
/-- Several frames' forms, or the first error. -/
def joinS : List Fr → List UInt8 × Int
  | [] => ([], 0)
  | f :: fs => if chkF f ≠ 0 then ([], chkF f) else if (joinS fs).2 ≠ 0 then ([], (joinS fs).2) else (formF f ++ (joinS fs).1, 0)

theorem joinS_ok : ∀ fs : List Fr, (∀ f ∈ fs, chkF f = 0) → joinS fs = (fs.flatMap formF, 0)
  | [], _ => rfl
  | f :: fs, h => by
    unfold joinS
    rw [joinS_ok fs (fun g hg => h g (by simp [hg])), if_neg (by simpa using h f (by simp)), if_neg (by simp)]
    simp
theorem joinS_bad : ∀ (fs : List Fr) (k : Nat), k < fs.length → (∀ j, j < k → chkF (fs.getD j fr0) = 0) → chkF (fs.getD k fr0) ≠ 0 → joinS fs = ([], chkF (fs.getD k fr0))
  | [], k, h, _, _ => by simp at h
  | f :: fs, 0, _, _, hk => by
    unfold joinS
    rw [if_pos (by simpa using hk)]; rfl
  | f :: fs, k + 1, h, hj, hk => by
    have h0 := hj 0 (by omega)
    have ih := joinS_bad fs k (by simpa using h) (fun j hj' => by have := hj (j + 1) (by omega); simpa using this) (by simpa using hk)
    unfold joinS
    rw [ih, if_neg (by simpa using h0), if_pos (by simpa using hk)]
    simp

theorem formF_len (f : Fr) : (formF f).length ≤ 12 := by
  have h1 := form_len f.t f.k f.a f.b
  have h2 := pay_len f.t f.k f.a f.b
  unfold formF; omega
theorem join_len : ∀ fs : List Fr, (fs.flatMap formF).length ≤ 12 * fs.length
  | [] => by simp
  | f :: fs => by
    rw [List.flatMap_cons, List.length_append, List.length_cons]
    have := join_len fs
    have := formF_len f
    omega

theorem isB_below {T e : TypeId} {B b : Nat} {l : List Value} {w w' : World} (h : Lib.IsBuilder T e B b l w) (hb : RowKit.Below w.heap.size w w') : Lib.IsBuilder T e B b l w' := by
  have key : ∀ p, Lib.BuilderAt T e B b p l w → Lib.BuilderAt T e B b p l w' := fun p ⟨h1, v, h2, h3, h4⟩ => by
    have hlt : b < w.heap.size := (Array.getElem?_eq_some_iff.1 h2).1
    exact ⟨h1, v, (hb.block b hlt).trans h2, h3.kept (grown_below (r := none) hb) (by cases v.ownBlock <;> simp), h4⟩
  rcases h with h | h
  · exact .inl (key _ h)
  · exact .inr (key _ h)

theorem cells_str (l : List UInt8) : Lib.strCells (bs l) = Lib.byteCells l := by
  simp [Lib.strCells, Lib.byteCells, bs]
theorem cells_app (l m : List UInt8) : Lib.byteCells (l ++ m) = Lib.byteCells l ++ Lib.byteCells m := by simp [Lib.byteCells]
theorem cells_len (l : List UInt8) : (Lib.byteCells l).length = l.length := by simp [Lib.byteCells]

set_option maxRecDepth 100000 in
set_option maxHeartbeats 2000000 in
theorem join_cells (b off cap : Nat) (fs : List Fr) (hm : fs.length ≤ 1000) (w : World) (hg : Glob w)
    (hf : ∀ k j u, (fs.getD k fr0).c[j]? = some u → k < fs.length → w.cell? ⟨b, off + k * 4 + j, none⟩ = some u) (ao : Option Addr) (hao : 0 < fs.length → ao = some ⟨b, off, none⟩) :
    Calls Tryd.prog 56 #[.slice ao fs.length cap] w fun e w' => e = .returned (.tuple #[.string (bs (joinS fs).1), .int .i64 (joinS fs).2]) ∧ RowKit.Below w.heap.size w w' := by
  have hen : ∀ f W, RowKit.Below w.heap.size w W → chkF f = 0 → Calls Tryd.prog 48 #[f.v] W fun e w' => e = .returned (.tuple #[.string (bs (formF f)), .int .i64 0]) ∧ RowKit.Below W.heap.size W w' := fun f W hb h => encode_ok f.t f.k f.a f.b W h (hg.next hb)
  have heb : ∀ f W, chkF f ≠ 0 → Calls Tryd.prog 48 #[f.v] W fun e w' => e = .returned (.tuple #[.string (bs []), .int .i64 (chkF f)]) ∧ RowKit.Below W.heap.size W w' := fun f W h => encode_bad f.t f.k f.a f.b W h
  have hws := fun (B : Nat) (l : List UInt8) (s : ByteArray) (W : World) (h : Lib.IsBuilder 119 5 B B (Lib.byteCells l) W) (h1 : l.length + s.size ≤ 140737488355328) (h2 : B ≤ W.heap.size) => Tryd.Builder_WriteString B B (Lib.byteCells l) s W h (by rw [cells_len]; exact h1) h2
  have hst := fun (B : Nat) (l : List UInt8) (W : World) (h : Lib.IsBuilder 119 5 B B (Lib.byteCells l) W) (h2 : B ≤ W.heap.size) => Tryd.Builder_String_any B B l W h h2
  have HI0 := Lib.hid (Lib.fresh_isBuilder 119 5 w)
  have HB0 := Lib.hid (below_alloc w (.cells #[.pointer none, .slice none 0 0] 119))
  go_enter Tryd.func56, Tryd.ntmps56
  go_wp2
  go_loopw [11] (fun i wr => ∃ k : Nat, k ≤ fs.length ∧ i = .int .i64 k ∧ Hid (∀ j, j < k → chkF (fs.getD j fr0) = 0) ∧ Hid (Lib.IsBuilder 119 5 w.heap.size w.heap.size (Lib.byteCells ((fs.take k).flatMap formF)) wr) ∧ Hid (RowKit.Below w.heap.size w wr))
    (fun i _ => fs.length - (intOf i).toNat)
  case atStart => exact ⟨0, Nat.zero_le _, rfl, fun j hj => by omega, by show Lib.IsBuilder _ _ _ _ _ _; simpa [Lib.byteCells] using HI0.out, HB0.out⟩
  case round =>
    obtain ⟨k, hk, rfl, HK, HI, HB⟩ := hrel
    clear HI0 HB0
    by_cases hlt : k < fs.length
    · obtain rfl := hao (by omega)
      have a1 : (k : Int) < fs.length := by omega
      have a2 : (0 : Int) ≤ k := by omega
      obtain ⟨f, hfk⟩ : ∃ f, fs.getD k fr0 = f := ⟨_, rfl⟩
      have c0 := hf k 0 (.int .i64 f.t) (by rw [hfk]; rfl) hlt
      have c1 := hf k 1 (.int .i64 f.k) (by rw [hfk]; rfl) hlt
      have c2 := hf k 2 (.int .i64 f.a) (by rw [hfk]; rfl) hlt
      have c3 := hf k 3 (.int .i64 f.b) (by rw [hfk]; rfl) hlt
      have hbb : b < w.heap.size := World.block_lt_of_cell? w ⟨b, off + k * 4 + 0, none⟩ c0
      have q0 : ∀ a, wr.cell? ⟨b, a, none⟩ = w.cell? ⟨b, a, none⟩ := fun a => HB.out.cell (p := ⟨b, a, none⟩) hbb
      simp only [← q0, Nat.add_zero] at c0 c1 c2 c3
      have HBa := Lib.hid (HB.out.alloc HB.out.size (.cells f.c 68))
      have HIa := Lib.hid (isB_below HI.out (below_alloc wr (.cells f.c 68)))
      clear hf q0
      by_cases hok : chkF f = 0
      · have hcall := hen f (wr.alloc (.cells f.c 68)) HBa.out hok
        clear hen heb
        have hl1 := join_len (fs.take k)
        rw [List.length_take] at hl1
        have hl2 := formF_len f
        have HS : Hid ((fs.take (k + 1)).flatMap formF = (fs.take k).flatMap formF ++ formF f) := by
          show _ = _
          rw [List.take_add_one, List.getElem?_eq_getElem hlt, List.flatMap_append]
          rw [List.getD_eq_getElem?_getD, List.getElem?_eq_getElem hlt] at hfk
          simp at hfk
          simp [hfk]
        have HC : Hid (∀ j, j < k + 1 → chkF (fs.getD j fr0) = 0) := fun j hj => by
          by_cases e : j = k
          · subst e; rw [hfk]; exact hok
          · exact HK.out j (by omega)
        clear hfk hok
        go_wp2_with (first
          | (go_at_call 48; refine hcall.mono ?_; rintro e w1 ⟨rfl, hb1⟩; have HB1 := Lib.hid (HBa.out.trans (hb1.mono HBa.out.size)); have HI1 := Lib.hid (isB_below HIa.out hb1); clear hb1)
          | (go_at_call 79; refine (hws _ _ _ _ HI1.out (by rw [bs_size]; omega) HB1.out.size).mono ?_; rintro e w2 ⟨rfl, hbu, hb2⟩; have HB2 := Lib.hid (HB1.out.trans hb2); have HI2 := Lib.hid hbu; clear hbu hb2)
          | fail)
        go_roundw
        case rel =>
          refine ⟨k + 1, by omega, by go_num, HC.out, ?_, HB2⟩
          show Lib.IsBuilder _ _ _ _ _ _
          rw [HS.out, cells_app]
          have h := HI2.out
          rw [cells_str] at h
          exact .inr h
        case measure => simp [intOf]; omega
      · have hcall := heb f (wr.alloc (.cells f.c 68)) hok
        have hne : (chkF f != 0) = true := by simpa using hok
        have HJ := Lib.hid (joinS_bad fs k hlt HK.out (by rw [hfk]; exact hok))
        rw [hfk] at HJ
        clear hen heb hfk hok
        go_wp2_with (first
          | (go_at_call 48; refine hcall.mono ?_; rintro e w1 ⟨rfl, hb1⟩; have HB1 := Lib.hid (HBa.out.trans (hb1.mono HBa.out.size)); clear hb1)
          | fail)
        go_ret2
        rw [HJ.out]
        exact ⟨rfl, HB1.out⟩
    · have a1 : ¬ (k : Int) < fs.length := by omega
      obtain rfl : k = fs.length := by omega
      have HJ := Lib.hid (joinS_ok fs (fun f hfm => by
        obtain ⟨j, hj, rfl⟩ := List.getElem_of_mem hfm
        have := HK.out j hj
        rw [List.getD_eq_getElem?_getD, List.getElem?_eq_getElem hj] at this
        exact this))
      have HI' := HI.out
      rw [List.take_length] at HI'
      have HI2 := Lib.hid HI'
      clear HI' HI hf hen heb
      go_wp2_with (first
        | (go_at_call 80; refine (hst _ _ _ HI2.out HB.out.size).mono ?_; rintro e w2 ⟨rfl, hb2⟩; have HB2 := Lib.hid (HB.out.trans hb2); clear hb2)
        | fail)
      go_ret2
      rw [HJ.out]
      exact ⟨rfl, HB2.out⟩
end Go.Proofs.YtaipifjmkbcjjaaDoor

/- Plain words and walks: streams made of numbers; 'At'. -/
namespace Go.Proofs.YtaipifjmkbcjjaaDoor
open Go.RowKit Go.Sort

theorem join_sees {v : Value} {fs : List Fr} {w : World} (S : SeesF w v fs) (hm : fs.length ≤ 1000) (hg : Glob w) :
    Calls Tryd.prog 56 #[v] w fun e w' => e = .returned (.tuple #[.string (bs (joinS fs).1), .int .i64 (joinS fs).2]) ∧ RowKit.Below w.heap.size w w' := by
  obtain ⟨ao, cap, rfl, hc⟩ := S
  rcases Nat.eq_zero_or_pos fs.length with h0 | h0
  · obtain rfl := List.eq_nil_of_length_eq_zero h0
    exact join_cells 0 0 cap [] (by simp) w hg (fun k j u _ hk => by simp at hk) ao (fun h => by simp at h)
  · obtain ⟨b, off, rfl, hx⟩ := hc h0
    exact join_cells b off cap fs hm w hg hx _ (fun _ => rfl)

theorem at_in (x : Addr) (len cap i : Nat) (v : Int) (w : World) (hi : i < len) (hc : w.cell? (x.add i) = some (.int .i64 v)) :
    Calls Tryd.prog 55 #[.slice (some x) len cap, .int .i64 i] w fun e w' => e = .returned (.int .i64 v) ∧ w = w' := by
  have a1 : decide ((i : Int) < 0) = false := by simp
  have a2 : decide ((len : Int) ≤ (i : Int)) = false := by simp; omega
  have a3 : (0 : Int) ≤ i := by omega
  have a4 : (i : Int) < len := by omega
  go_enter Tryd.func55, Tryd.ntmps55
  go_wp2
  go_ret
  exact ⟨by first | rfl | trivial, by first | rfl | trivial⟩
theorem at_out (a : Option Addr) (len cap i : Nat) (w : World) (hi : len ≤ i) :
    Calls Tryd.prog 55 #[.slice a len cap, .int .i64 i] w fun e w' => e = .returned (.int .i64 0) ∧ w = w' := by
  have a1 : decide ((i : Int) < 0) = false := by simp
  have a2 : decide ((len : Int) ≤ (i : Int)) = true := by simp; omega
  go_enter Tryd.func55, Tryd.ntmps55
  go_wp2
  go_ret
  exact ⟨by first | rfl | trivial, by first | rfl | trivial⟩

def junkB : ByteArray := ⟨#[120, 59, 48, 44, 80, 255, 10, 32, 104]⟩
def junkT : List UInt8 := [120, 59, 48, 44, 80, 255, 10, 32, 104]
def gapN (j : Int) : Nat := (j % 64 % 10).toNat
def mFr (n : Int) : Fr := madeM (n % 16777216)
theorem mFr_ok (n : Int) : okF (mFr n) := madeM_ok _
def strm (ns js : Nat → Int) : Nat → List UInt8
  | 0 => []
  | k + 1 => strm ns js k ++ (junkT.take (gapN (js k)) ++ formF (mFr (ns k)))
def frs (ns : Nat → Int) : Nat → List Fr
  | 0 => []
  | k + 1 => frs ns k ++ [mFr (ns k)]
def gps (js : Nat → Int) : Nat → Nat
  | 0 => 0
  | k + 1 => gps js k + gapN (js k)
def its (ns js : Nat → Int) : Nat → List (Fr × Nat)
  | 0 => []
  | k + 1 => its ns js k ++ (List.replicate (gapN (js k)) (fr0, 1) ++ [(mFr (ns k), fl (mFr (ns k)))])

theorem gapN_le (j : Int) : gapN j ≤ 9 := by unfold gapN; omega
theorem junk_in (k : Nat) : ∀ c ∈ junkT.take k, c ≠ 60 := by
  intro c hc
  have h := List.mem_of_mem_take hc
  have : ∀ c ∈ junkT, c ≠ 60 := by decide
  exact this c h

theorem items_strm (ns js : Nat → Int) : ∀ (k : Nat) (t : List UInt8), items (strm ns js k ++ t) = its ns js k ++ items t
  | 0, t => rfl
  | k + 1, t => by
    show items ((strm ns js k ++ (junkT.take (gapN (js k)) ++ formF (mFr (ns k)))) ++ t) = (its ns js k ++ (List.replicate (gapN (js k)) (fr0, 1) ++ [(mFr (ns k), fl (mFr (ns k)))])) ++ items t
    rw [List.append_assoc, items_strm ns js k, List.append_assoc, items_junk _ _ (junk_in _)]
    have h := items_form (mFr (ns k)) (mFr_ok _) t
    have e : items (formF (mFr (ns k)) ++ t) = (mFr (ns k), fl (mFr (ns k))) :: items t := h
    rw [e, List.length_take, show min (gapN (js k)) junkT.length = gapN (js k) by have := gapN_le (js k); show min _ 9 = _; omega]
    simp
theorem fl_pos (f : Fr) : 10 ≤ fl f := by
  have h1 := form_len f.t f.k f.a f.b
  have h2 := pay_len f.t f.k f.a f.b
  unfold fl; omega
theorem its_frames (ns js : Nat → Int) : ∀ k, framesOf (its ns js k) = frs ns k
  | 0 => rfl
  | k + 1 => by
    show framesOf (its ns js k ++ (List.replicate (gapN (js k)) (fr0, 1) ++ [(mFr (ns k), fl (mFr (ns k)))])) = frs ns k ++ [mFr (ns k)]
    rw [framesOf_app, its_frames ns js k, framesOf_app, framesOf_rep, framesOf_cons _ _ (by have := fl_pos (mFr (ns k)); show 1 < fl _; omega)]
    rfl
theorem its_junk (ns js : Nat → Int) : ∀ k, junkOf (its ns js k) = gps js k
  | 0 => rfl
  | k + 1 => by
    show junkOf (its ns js k ++ (List.replicate (gapN (js k)) (fr0, 1) ++ [(mFr (ns k), fl (mFr (ns k)))])) = gps js k + gapN (js k)
    rw [junkOf_app, its_junk ns js k, junkOf_app, junkOf_rep, junkOf_cons _ _ (by have := fl_pos (mFr (ns k)); show 1 < fl _; omega)]
    rfl
theorem strm_items (ns js : Nat → Int) (k : Nat) : framesOf (items (strm ns js k)) = frs ns k ∧ junkOf (items (strm ns js k)) = gps js k := by
  have h := items_strm ns js k []
  rw [List.append_nil, items_nil, List.append_nil] at h
  rw [h]; exact ⟨its_frames ns js k, its_junk ns js k⟩
theorem strm_len (ns js : Nat → Int) : ∀ k, (strm ns js k).length ≤ 21 * k
  | 0 => by simp [strm]
  | k + 1 => by
    show (strm ns js k ++ (junkT.take (gapN (js k)) ++ formF (mFr (ns k)))).length ≤ _
    rw [List.length_append, List.length_append, List.length_take]
    have := strm_len ns js k
    have := formF_len (mFr (ns k))
    have := gapN_le (js k)
    omega
theorem gps_le (js : Nat → Int) : ∀ k, gps js k ≤ 9 * k
  | 0 => by simp [gps]
  | k + 1 => by
    show gps js k + gapN (js k) ≤ _
    have := gps_le js k
    have := gapN_le (js k)
    omega
theorem frs_len (ns : Nat → Int) : ∀ k, (frs ns k).length = k
  | 0 => rfl
  | k + 1 => by show (frs ns k ++ [_]).length = _; rw [List.length_append, frs_len ns k]; rfl
theorem frs_ok (ns : Nat → Int) : ∀ k, ∀ f ∈ frs ns k, chkF f = 0
  | 0, f, h => by cases h
  | k + 1, f, h => by
    rcases List.mem_append.1 h with h | h
    · exact frs_ok ns k f h
    · rw [List.mem_singleton.1 h]; exact mFr_ok _
theorem join_items : ∀ fs : List Fr, (∀ f ∈ fs, chkF f = 0) → framesOf (items (fs.flatMap formF)) = fs ∧ junkOf (items (fs.flatMap formF)) = 0
  | [], _ => ⟨rfl, rfl⟩
  | f :: fs, h => by
    obtain ⟨i1, i2⟩ := join_items fs (fun g hg => h g (by simp [hg]))
    rw [List.flatMap_cons]
    have e : items (formF f ++ fs.flatMap formF) = (f, fl f) :: items (fs.flatMap formF) := items_form f (h f (by simp)) _
    have hp := fl_pos f
    rw [e, framesOf_cons _ _ (show 1 < fl f by omega), junkOf_cons _ _ (show 1 < fl f by omega), i1, i2]
    exact ⟨rfl, rfl⟩
end Go.Proofs.YtaipifjmkbcjjaaDoor
