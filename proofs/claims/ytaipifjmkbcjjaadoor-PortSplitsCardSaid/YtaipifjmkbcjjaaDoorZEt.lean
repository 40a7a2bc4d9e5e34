/- Plain words: lists of entries, in memory and by domains. -/
import Derived.Test.YtaipifjmkbcjjaaDoorZg4
import Derived.Test.YtaipifjmkbcjjaaDoorZSc
import Derived.Test.YtaipifjmkbcjjaaDoorZg2
namespace Go.Proofs.YtaipifjmkbcjjaaDoor
open Go.RowKit Go.Sort

/-- An entry. -/
structure Et where
  t : Int
  k : Int
  p : Int
  d : ByteArray
  c : Int
  u : Int
  v : Int
abbrev Et.cs (e : Et) : Array Value := #[.int .i64 e.t, .int .i64 e.k, .int .i64 e.p, .string e.d, .int .i64 e.c, .int .i64 e.u, .int .i64 e.v]
abbrev Et.val (e : Et) : Value := .agg e.cs
def et0 : Et := ⟨0, 0, 0, ⟨#[]⟩, 0, 0, 0⟩
def flatE (es : List Et) : List Value := es.flatMap (fun e => e.cs.toList)
theorem flatE_len (es : List Et) : (flatE es).length = es.length * 7 := by
  induction es with
  | nil => rfl
  | cons e es ih => show (e.cs.toList ++ flatE es).length = _; rw [List.length_append, ih]; simp; omega
theorem flatE_snoc (es : List Et) (e : Et) : flatE (es ++ [e]) = flatE es ++ e.cs.toList := by simp [flatE]
theorem flatE_one (es : List Et) : ∀ u ∈ flatE es, u.oneCell' = true := by
  intro u hu
  unfold flatE at hu
  rw [List.mem_flatMap] at hu
  obtain ⟨f, -, hf⟩ := hu
  simp at hf
  rcases hf with rfl | rfl | rfl | rfl | rfl | rfl | rfl <;> rfl
theorem Tr.info57 : (Tryd.prog.info? 57).map (fun i => (i.zero, i.size, i.bytes)) = some (some et0.val, 7, 64) := by kernel_rfl
theorem zero55 (w : World) : (zeroValue 55).run Tryd.prog w = .ok (.slice none 0 0) w := by kernel_rfl

theorem flatE_at (es : List Et) : ∀ (k j : Nat) (u : Value), (es.getD k et0).cs[j]? = some u → k < es.length → (flatE es)[k * 7 + j]? = some u := by
  induction es with
  | nil => intro k j u _ h; simp at h
  | cons f fs ih =>
    intro k j u h hk
    have hj : j < 7 := by
      obtain ⟨hj, -⟩ := Array.getElem?_eq_some_iff.1 h
      simpa using hj
    cases k with
    | zero =>
      show (f.cs.toList ++ flatE fs)[0 * 7 + j]? = _
      rw [List.getElem?_append_left (by simp; omega)]
      simpa using h
    | succ k =>
      show (f.cs.toList ++ flatE fs)[(k + 1) * 7 + j]? = _
      rw [List.getElem?_append_right (by simp; omega)]
      rw [show (k + 1) * 7 + j - f.cs.toList.length = k * 7 + j by simp; omega]
      exact ih k j u (by simpa using h) (by simpa using hk)

/-- A slice's value that reads as some entries. -/
def SeesE (w : World) (v : Value) (es : List Et) : Prop :=
  ∃ ao cap, v = .slice ao es.length cap ∧ (0 < es.length → ∃ b off, ao = some ⟨b, off, none⟩ ∧ ∀ k j u, (es.getD k et0).cs[j]? = some u → k < es.length → w.cell? ⟨b, off + k * 7 + j, none⟩ = some u)

theorem ownE_sees {w : World} {base : Nat} {v : Value} {es : List Et} (h : w.ownsRow base 57 7 v es.length (flatE es)) : SeesE w v es := by
  have hc : ∀ g, v.ownBlock = some g → _ := fun g hg => h.cells (g := g) hg
  rcases h.2 with ⟨rfl, hn⟩ | ⟨g, cap, cur, rfl, hbg, hg, hnc, hcm, hcs, htake⟩
  · exact ⟨none, 0, by rw [hn], fun h0 => by omega⟩
  · refine ⟨_, cap, rfl, fun _ => ⟨g, 0, rfl, fun k j u hu hk => ?_⟩⟩
    have := hc g rfl (k * 7 + j) u (flatE_at es k j u hu hk)
    have e : (⟨g, 0, none⟩ : Addr).add (k * 7 + j) = ⟨g, k * 7 + j, none⟩ := by unfold Addr.add; split <;> simp_all
    rw [e] at this
    rw [← this]; congr 2; omega

theorem SeesE.block {w w' : World} {v : Value} {es : List Et} (h : SeesE w v es) (hb : Below w.heap.size w w') : SeesE w' v es := by
  obtain ⟨ao, cap, hv, hc⟩ := h
  refine ⟨ao, cap, hv, fun h0 => ?_⟩
  obtain ⟨b, off, he, hx⟩ := hc h0
  refine ⟨b, off, he, fun k j u hu hk => ?_⟩
  have h1 := hx k j u hu hk
  exact (hb.cell (p := ⟨b, off + k * 7 + j, none⟩) (World.block_lt_of_cell? w ⟨b, off + k * 7 + j, none⟩ h1)).trans h1

/-- The error of an entry, and the first one of a list. -/
def entErr (e : Et) : Int := if e.k = 2 then 0 else if e.k = 1 then (if 0 ≤ e.p ∧ e.p < 24 then 0 else 2) else 11
def firstErr : List Et → Int
  | [] => 0
  | e :: es => if entErr e ≠ 0 then entErr e else firstErr es
theorem firstErr_ok : ∀ es : List Et, (∀ k, k < es.length → entErr (es.getD k et0) = 0) → firstErr es = 0
  | [], _ => rfl
  | e :: es, h => by
    have h0 := h 0 (by simp)
    unfold firstErr
    rw [if_neg (by simpa using h0)]
    exact firstErr_ok es (fun k hk => by have := h (k + 1) (by simpa using hk); simpa using this)
theorem firstErr_bad : ∀ (es : List Et) (k : Nat), k < es.length → (∀ j, j < k → entErr (es.getD j et0) = 0) → entErr (es.getD k et0) ≠ 0 → firstErr es = entErr (es.getD k et0)
  | [], k, h, _, _ => by simp at h
  | e :: es, 0, _, _, hk => by
    unfold firstErr
    rw [if_pos (by simpa using hk)]; rfl
  | e :: es, k + 1, h, hj, hk => by
    have h0 := hj 0 (by omega)
    unfold firstErr
    rw [if_neg (by simpa using h0)]
    have := firstErr_bad es k (by simpa using h) (fun j hj' => by have := hj (j + 1) (by omega); simpa using this) (by simpa using hk)
    rw [this]; simp

/-- The entries of a domain's ports. -/
def isD (d : Int) (e : Et) : Bool := decide (e.k = 1 ∧ 1 + e.p / 8 = d)
def domL (d : Int) (es : List Et) : List Et := es.filter (isD d)
theorem domL_len (d : Int) (es : List Et) : (domL d es).length ≤ es.length := List.length_filter_le _ _
theorem take_snocE (es : List Et) (k : Nat) (h : k < es.length) : es.take (k + 1) = es.take k ++ [es.getD k et0] := by
  rw [List.take_add_one, List.getElem?_eq_getElem h]
  simp [List.getD_eq_getElem?_getD, List.getElem?_eq_getElem h]
theorem domL_hit (d : Int) (es : List Et) (k : Nat) (h : k < es.length) (hd : isD d (es.getD k et0) = true) : domL d (es.take (k + 1)) = domL d (es.take k) ++ [es.getD k et0] := by
  rw [take_snocE es k h]; unfold domL; rw [List.filter_append, List.filter_cons_of_pos hd]; rfl
theorem domL_miss (d : Int) (es : List Et) (k : Nat) (h : k < es.length) (hd : isD d (es.getD k et0) = false) : domL d (es.take (k + 1)) = domL d (es.take k) := by
  rw [take_snocE es k h]; unfold domL; rw [List.filter_append, List.filter_cons_of_neg (by rw [hd]; decide)]; simp

theorem find_map (x : Rw) (d : Int) (hd : d ≠ x.k) : ∀ rows : List Rw, (rows.map (fun r => if r.k = x.k then x else r)).find? (fun r => r.k == d) = rows.find? (fun r => r.k == d)
  | [] => rfl
  | r :: rows => by
    have ih := find_map x d hd rows
    rw [List.map_cons]
    by_cases hr : r.k = x.k
    · have h1 : (x.k == d) = false := by simpa using fun e => hd e.symm
      have h2 : (r.k == d) = false := by rw [hr]; exact h1
      rw [if_pos hr]
      simp only [List.find?_cons, h1, h2]
      exact ih
    · rw [if_neg hr]
      simp only [List.find?_cons]
      cases (r.k == d) with
      | true => rfl
      | false => exact ih
theorem find_map_self (x : Rw) : ∀ rows : List Rw, hasRow rows x.k = true → (rows.map (fun r => if r.k = x.k then x else r)).find? (fun r => r.k == x.k) = some x
  | [], h => by simp [hasRow] at h
  | r :: rows, h => by
    rw [List.map_cons]
    by_cases hr : r.k = x.k
    · rw [if_pos hr]
      simp only [List.find?_cons, beq_self_eq_true]
    · rw [if_neg hr]
      have h2 : (r.k == x.k) = false := by simpa using hr
      simp only [List.find?_cons, h2]
      refine find_map_self x rows ?_
      unfold hasRow at h ⊢
      rw [List.any_cons, h2] at h
      simpa using h
theorem rowAt_put (rows : List Rw) (x : Rw) (d : Int) : rowAt (putRow' rows x) d = if d = x.k then x else rowAt rows d := by
  unfold putRow'
  by_cases hd : d = x.k
  · subst hd
    rw [if_pos rfl]
    by_cases hh : hasRow rows x.k = true
    · rw [if_pos hh]
      unfold rowAt
      rw [find_map_self x rows hh]; rfl
    · rw [if_neg hh]
      unfold rowAt
      have hn : rows.find? (fun r => r.k == x.k) = none := by
        rw [List.find?_eq_none]
        intro r hr hk
        exact hh (by unfold hasRow; rw [List.any_eq_true]; exact ⟨r, hr, hk⟩)
      rw [List.find?_append, hn]
      simp
  · rw [if_neg hd]
    by_cases hh : hasRow rows x.k = true
    · rw [if_pos hh]
      unfold rowAt
      rw [find_map x d hd rows]
    · rw [if_neg hh]
      unfold rowAt
      rw [List.find?_append]
      have h1 : (x.k == d) = false := by simpa using fun e => hd e.symm
      cases hf : rows.find? (fun r => r.k == d) with
      | some r => rfl
      | none => simp [h1]

theorem GM.alloc {w : World} {base : Nat} {E : TypeId} {size m : Nat} {rows : List Rw} (g : GM w base E size m rows) (o : Obj) : GM (w.alloc o) base E size m rows := by
  refine ⟨?_, fun r hr => (g.own r hr).alloc _, g.apart, g.lt⟩
  obtain ⟨es, cl, hm, he⟩ := g.map
  have hlt : m < w.heap.size := (Array.getElem?_eq_some_iff.1 hm).1
  exact ⟨es, cl, by rw [heap_alloc_old _ _ hlt]; exact hm, he⟩
theorem cells_newA (w : World) (o1 : Obj) (xs : Array Value) (t : TypeId) : ∀ j u, xs.toList[j]? = some u → ((w.alloc o1).alloc (.cells xs t)).cell? ((⟨w.heap.size + 1, 0, none⟩ : Addr).add j) = some u := by
  intro j u hj
  have := cells_new (w.alloc o1) xs t j u hj
  simpa using this
end Go.Proofs.YtaipifjmkbcjjaaDoor
