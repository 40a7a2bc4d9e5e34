/- A map from int to slices that the call itself makes: laws. -/
import Derived.Test.YtaipifjmkbcjjaaDoorZg1
import Derived.Maps.AppendAt
import Derived.MapKept
import Derived.ChangeMaps4
import Derived.Maps.OwnRows
namespace Go.Proofs.YtaipifjmkbcjjaaDoor
open Go.RowKit Go.WideMaps Go.Maps
open Go.MapKept (IsKey findNow_spec run_checkKey run_findKey run_keyThatStays)

/-- A row of such a map: its key, the slice, how many elements it has, their cells. -/
structure Rw where
  k : Int
  v : Value
  n : Nat
  xs : List Value

/-- In w block m is the map of these rows, each of which owns its own block from base on. -/
structure GM (w : World) (base : Nat) (E : TypeId) (size m : Nat) (rows : List Rw) : Prop where
  map : ∃ es clock, w.heap[m]? = some (.map es clock) ∧ es.toList.map (fun e => (e.key, e.val)) = rows.map (fun r => (Value.int .i64 r.k, r.v))
  own : ∀ r ∈ rows, w.ownsRow base E size r.v r.n r.xs
  apart : rows.Pairwise (fun r s => r.k ≠ s.k ∧ (r.v.ownBlock = none ∨ r.v.ownBlock ≠ s.v.ownBlock))
  lt : m < base

theorem GM.made (w : World) (E : TypeId) (size : Nat) : GM (w.alloc (.map #[] 0)) (w.heap.size + 1) E size w.heap.size [] :=
  ⟨⟨#[], 0, by show (w.heap.push _)[w.heap.size]? = _; simp, rfl⟩, by simp, List.Pairwise.nil, by omega⟩

def noRow (d : Int) : Rw := ⟨d, .slice none 0 0, 0, []⟩
/-- The row at a key. -/
def rowAt (rows : List Rw) (d : Int) : Rw := (rows.find? (fun r => r.k == d)).getD (noRow d)
def hasRow (rows : List Rw) (d : Int) : Bool := rows.any (fun r => r.k == d)
/-- The rows behind a store. -/
def putRow' (rows : List Rw) (x : Rw) : List Rw := if hasRow rows x.k then rows.map (fun r => if r.k = x.k then x else r) else rows ++ [x]

theorem rowAt_mem {rows : List Rw} {d : Int} (h : hasRow rows d = true) : rowAt rows d ∈ rows ∧ (rowAt rows d).k = d := by
  unfold hasRow at h
  rw [List.any_eq_true] at h
  obtain ⟨r, hr, hk⟩ := h
  unfold rowAt
  cases hf : rows.find? (fun r => r.k == d) with
  | none => exact absurd (List.find?_eq_none.1 hf r hr) (by simpa using hk)
  | some s => exact ⟨List.mem_of_find?_eq_some hf, by have := List.find?_some hf; simpa using this⟩
theorem rowAt_no {rows : List Rw} {d : Int} (h : hasRow rows d = false) : rowAt rows d = noRow d := by
  unfold hasRow at h
  rw [List.any_eq_false] at h
  unfold rowAt
  rw [List.find?_eq_none.2 (fun r hr => by simpa using h r hr)]; rfl

theorem GM.ownAt {w base E size m rows} (g : GM w base E size m rows) (d : Int) : w.ownsRow base E size (rowAt rows d).v (rowAt rows d).n (rowAt rows d).xs := by
  cases h : hasRow rows d with
  | true => exact g.own _ (rowAt_mem h).1
  | false => rw [rowAt_no h]; exact World.ownsRow_nil _ _ _ _

section
variable {P : Program} {T K E0 : TypeId}

theorem find_rows {es : List MapEntry} {rows : List Rw} (hes : es.map (fun e => (e.key, e.val)) = rows.map (fun r => (Value.int .i64 r.k, r.v))) :
    ∀ e ∈ es, IsKey (.int .i64) e.key := by
  intro e he
  have : (e.key, e.val) ∈ rows.map (fun r => (Value.int .i64 r.k, r.v)) := by rw [← hes]; exact List.mem_map_of_mem he
  obtain ⟨r, _, hr⟩ := List.mem_map.1 this
  simp only [Prod.mk.injEq] at hr
  rw [← hr.1]; rfl

/-- The look-up. -/
theorem GM.lookup {w base E size m rows} (g : GM w base E size m rows) (ht : P.underlying T = some (.map K E0)) (hk : P.underlying K = some (.int .i64)) (hz : (zeroValue E0).run P w = .ok (.slice none 0 0) w) (d : Int) (ok : Bool) :
    (Instr.lookup T (.map (some m)) (.int .i64 d) ok).run P w = .ok (if ok then .tuple #[(rowAt rows d).v, .bool (hasRow rows d)] else (rowAt rows d).v) w := by
  obtain ⟨es, clock, hb, hes⟩ := g.map
  have hkey : IsKey (.int .i64) (.int .i64 d) := rfl
  have hlen : es.toList.length = rows.length := by have := congrArg List.length hes; simpa using this
  rcases findNow_spec hkey es.toList 0 (find_rows hes) with ⟨h1, h2⟩ | ⟨j, e0, h1, h2, h3⟩
  · have hno : hasRow rows d = false := by
      unfold hasRow
      rw [List.any_eq_false]
      intro r hr
      have : (Value.int .i64 r.k, r.v) ∈ es.toList.map (fun e => (e.key, e.val)) := by rw [hes]; exact List.mem_map_of_mem hr
      obtain ⟨e, he, hee⟩ := List.mem_map.1 this
      simp only [Prod.mk.injEq] at hee
      have := h2 e he
      rw [hee.1] at this
      simpa using this
    have hf := run_findKey (P := P) (w := w) hk h1
    cases ok <;> simp [Instr.lookup, run_underlying ht, Go.MapKept.run_getObj_map hb, run_checkKey hk hkey, hf, Result.andThen, hz, hno, rowAt_no hno, noRow]
  · have hf := run_findKey (P := P) (w := w) hk h1
    have hj : j < rows.length := by have := (List.getElem?_eq_some_iff.1 h2).1; omega
    have hrow : (e0.key, e0.val) = (Value.int .i64 rows[j].k, rows[j].v) := by
      have h4 : (es.toList.map (fun e => (e.key, e.val)))[j]? = some (e0.key, e0.val) := by rw [List.getElem?_map, h2]; rfl
      rw [hes, List.getElem?_map, List.getElem?_eq_getElem hj] at h4
      simpa using h4.symm
    simp only [Prod.mk.injEq] at hrow
    have hkd : rows[j].k = d := by
      have := hrow.1.symm.trans h3
      simpa using this
    have hhas : hasRow rows d = true := by
      unfold hasRow; rw [List.any_eq_true]; exact ⟨rows[j], List.getElem_mem hj, by simpa using hkd⟩
    have hat : rowAt rows d = rows[j] := by
      obtain ⟨hm, hkk⟩ := rowAt_mem hhas
      obtain ⟨i, hi, hir⟩ := List.getElem_of_mem hm
      have : i = j := by
        rcases Nat.lt_trichotomy i j with h | h | h
        · have := (List.pairwise_iff_getElem.1 g.apart i j hi hj h).1
          rw [hir, hkk, hkd] at this; exact absurd rfl this
        · exact h
        · have := (List.pairwise_iff_getElem.1 g.apart j i hj hi h).1
          rw [hir, hkk, hkd] at this; exact absurd rfl this
      subst this; exact hir.symm
    cases ok <;> simp [Instr.lookup, run_underlying ht, Go.MapKept.run_getObj_map hb, run_checkKey hk hkey, hf, Result.andThen, hhas, hat, hrow.2]

theorem map_modify {es : List MapEntry} {rows : List Rw} {d : Int} {v' : Value} {x : Rw} (hx : x.k = d) (hxv : x.v = v') (hes : es.map (fun e => (e.key, e.val)) = rows.map (fun r => (Value.int .i64 r.k, r.v)))
    (hap : rows.Pairwise (fun r s => r.k ≠ s.k ∧ (r.v.ownBlock = none ∨ r.v.ownBlock ≠ s.v.ownBlock))) {j : Nat} (hj : j < rows.length) (hk : rows[j].k = d) :
    (es.modify j (fun e => { e with key := Value.int .i64 d, val := v' })).map (fun e => (e.key, e.val)) = (rows.map (fun r => if r.k = x.k then x else r)).map (fun r => (Value.int .i64 r.k, r.v)) := by
  have hlen : es.length = rows.length := by have := congrArg List.length hes; simpa using this
  apply List.ext_getElem
  · simp [hlen]
  · intro i h1 h2
    have hi : i < rows.length := by simpa using h2
    have hie : i < es.length := by omega
    have he : (es[i].key, es[i].val) = (Value.int .i64 rows[i].k, rows[i].v) := by
      have := List.getElem_of_eq hes (i := i) (by simpa using hie)
      simpa using this
    simp only [Prod.mk.injEq] at he
    by_cases hij : j = i
    · subst hij
      simp [List.getElem_modify, hk, hx, hxv]
    · have hne : rows[i].k ≠ x.k := by
        rw [hx, ← hk]
        rcases Nat.lt_or_gt_of_ne hij with h | h
        · exact (List.pairwise_iff_getElem.1 hap j i hj hi h).1.symm
        · exact (List.pairwise_iff_getElem.1 hap i j hi hj h).1
      simp [List.getElem_modify, hij, hne, he.1, he.2]

/-- The store. -/
theorem GM.update {w w1 base E size m rows} (g : GM w base E size m rows) (ht : P.underlying T = some (.map K E0)) (hk : P.underlying K = some (.int .i64)) (x : Rw) (hB : base ≤ w.heap.size)
    (hgr : w.grownBy w1 (rowAt rows x.k).v.ownBlock) (hown : w1.ownsRow base E size x.v x.n x.xs) (hloc : x.v.ownBlock = (rowAt rows x.k).v.ownBlock ∨ ∃ b, x.v.ownBlock = some b ∧ w.heap.size ≤ b) :
    ∃ w2, (Instr.mapUpdate T (.map (some m)) (.int .i64 x.k) x.v).run P w1 = .ok () w2 ∧ GM w2 base E size m (putRow' rows x) ∧ w1.grownBy w2 (some m) := by
  obtain ⟨es, clock, hb, hes⟩ := g.map
  have hkey : IsKey (.int .i64) (.int .i64 x.k) := rfl
  have hlen : es.toList.length = rows.length := by have := congrArg List.length hes; simpa using this
  have hat := g.ownAt x.k
  have hmb : some m ≠ (rowAt rows x.k).v.ownBlock := by
    intro e
    have := (hat.lt m e.symm).1
    have := g.lt; omega
  have hmlt : m < w.heap.size := by have := g.lt; omega
  have hb1 : w1.heap[m]? = some (.map es clock) := (hgr.block m hmlt hmb).trans hb
  -- rows at other keys stand
  have hkeep : ∀ r ∈ rows, r.k ≠ x.k → w1.ownsRow base E size r.v r.n r.xs ∧ (r.v.ownBlock = none ∨ r.v.ownBlock ≠ x.v.ownBlock) := by
    intro r hr hne
    have hro := g.own r hr
    have hap : r.v.ownBlock = none ∨ r.v.ownBlock ≠ (rowAt rows x.k).v.ownBlock := by
      cases h : hasRow rows x.k with
      | false => rw [rowAt_no h]; cases hh : r.v.ownBlock <;> simp [noRow, Value.ownBlock]
      | true =>
        obtain ⟨hm, hkk⟩ := rowAt_mem h
        obtain ⟨i, hi, hir⟩ := List.getElem_of_mem hr
        obtain ⟨j, hj, hjr⟩ := List.getElem_of_mem hm
        rcases Nat.lt_trichotomy i j with h' | h' | h'
        · have := (List.pairwise_iff_getElem.1 g.apart i j hi hj h').2
          rw [hir, hjr] at this; exact this
        · subst h'; rw [hir] at hjr; rw [hjr] at hne; exact absurd hkk hne
        · have := (List.pairwise_iff_getElem.1 g.apart j i hj hi h').2
          rw [hir, hjr] at this
          rcases this with h1 | h1
          · rw [h1]; cases hh : r.v.ownBlock <;> simp
          · exact .inr (Ne.symm h1)
    refine ⟨hro.kept hgr hap, ?_⟩
    rcases hloc with h | ⟨b, h, hbb⟩
    · rw [h]; exact hap
    · rw [h]
      cases hh : r.v.ownBlock with
      | none => left; rfl
      | some c => right; intro e; have := (hro.lt c hh).2; simp only [Option.some.injEq] at e; omega
  have hgm : ∀ (o : Obj), w1.grownBy { w1 with heap := w1.heap.setIfInBounds m o } (some m) := fun o =>
    ⟨rfl, rfl, rfl, by simp, fun k hk hne => by
      have : m ≠ k := fun e => hne (by rw [e])
      simp [Array.getElem?_setIfInBounds, this]⟩
  have hgm2 : ∀ (o : Obj), ({ w1 with heap := w1.heap.setIfInBounds m o } : World).heap[m]? = some o := fun o => by
    have : m < w1.heap.size := Nat.lt_of_lt_of_le hmlt hgr.size
    simp [this]
  have hownm : ∀ {v : Value} {n : Nat} {xs : List Value} (o : Obj), w1.ownsRow base E size v n xs → ({ w1 with heap := w1.heap.setIfInBounds m o } : World).ownsRow base E size v n xs := by
    intro v n xs o h
    refine h.kept (hgm o) ?_
    cases hh : v.ownBlock with
    | none => left; rfl
    | some c => right; intro e; have := (h.lt c hh).1; have := g.lt; simp only [Option.some.injEq] at e; omega
  rcases findNow_spec hkey es.toList 0 (find_rows hes) with ⟨h1, h2⟩ | ⟨j, e0, h1, h2, h3⟩
  · have hno : hasRow rows x.k = false := by
      unfold hasRow
      rw [List.any_eq_false]
      intro r hr
      have : (Value.int .i64 r.k, r.v) ∈ es.toList.map (fun e => (e.key, e.val)) := by rw [hes]; exact List.mem_map_of_mem hr
      obtain ⟨e, he, hee⟩ := List.mem_map.1 this
      simp only [Prod.mk.injEq] at hee
      have := h2 e he
      rw [hee.1] at this
      simpa using this
    have hf := run_findKey (P := P) (w := w1) hk h1
    refine ⟨{ w1 with heap := w1.heap.setIfInBounds m (.map (es.push ⟨.int .i64 x.k, x.v, clock⟩) (clock + 1)) }, ?_, ?_, hgm _⟩
    · simp [Instr.mapUpdate, run_underlying ht, Go.MapKept.run_getObj_map hb1, run_checkKey hk hkey, hf, Go.MapKept.run_setObj_map _ hb1, Result.andThen]
    · have hput : putRow' rows x = rows ++ [x] := by unfold putRow'; rw [hno]; rfl
      have hallne : ∀ r ∈ rows, r.k ≠ x.k := by
        intro r hr e
        unfold hasRow at hno
        have := List.any_eq_false.1 hno r hr
        simp [e] at this
      rw [hput]
      refine ⟨⟨_, _, hgm2 _, ?_⟩, ?_, ?_, g.lt⟩
      · simp [hes]
      · intro r hr
        rcases List.mem_append.1 hr with hr | hr
        · exact hownm _ (hkeep r hr (hallne r hr)).1
        · rw [List.mem_singleton] at hr; subst hr; exact hownm _ hown
      · refine List.pairwise_append.2 ⟨g.apart, List.pairwise_singleton _ _, ?_⟩
        intro r hr s hs
        rw [List.mem_singleton] at hs; subst hs
        exact ⟨hallne r hr, (hkeep r hr (hallne r hr)).2⟩
  · have hf := run_findKey (P := P) (w := w1) hk h1
    have hj : j < rows.length := by have := (List.getElem?_eq_some_iff.1 h2).1; omega
    have hrow : (e0.key, e0.val) = (Value.int .i64 rows[j].k, rows[j].v) := by
      have h4 : (es.toList.map (fun e => (e.key, e.val)))[j]? = some (e0.key, e0.val) := by rw [List.getElem?_map, h2]; rfl
      rw [hes, List.getElem?_map, List.getElem?_eq_getElem hj] at h4
      simpa using h4.symm
    simp only [Prod.mk.injEq] at hrow
    have hkd : rows[j].k = x.k := by
      have := hrow.1.symm.trans h3
      simpa using this
    have hhas : hasRow rows x.k = true := by
      unfold hasRow; rw [List.any_eq_true]; exact ⟨rows[j], List.getElem_mem hj, by simpa using hkd⟩
    have hje : es[j]? = some e0 := by simpa using h2
    refine ⟨{ w1 with heap := w1.heap.setIfInBounds m (.map (es.modify j fun e => { e with key := .int .i64 x.k, val := x.v }) clock) }, ?_, ?_, hgm _⟩
    · simp [Instr.mapUpdate, run_underlying ht, Go.MapKept.run_getObj_map hb1, run_checkKey hk hkey, hf, hje, h3, run_keyThatStays hkey, Go.MapKept.run_setObj_map _ hb1, Result.andThen]
    · have hput : putRow' rows x = rows.map (fun r => if r.k = x.k then x else r) := by unfold putRow'; rw [hhas]; rfl
      rw [hput]
      refine ⟨⟨_, _, hgm2 _, ?_⟩, ?_, ?_, g.lt⟩
      · rw [Array.toList_modify]
        exact map_modify rfl rfl hes g.apart hj hkd
      · intro r hr
        obtain ⟨s, hs, hsr⟩ := List.mem_map.1 hr
        by_cases hsk : s.k = x.k
        · rw [if_pos hsk] at hsr; subst hsr; exact hownm _ hown
        · rw [if_neg hsk] at hsr; subst hsr; exact hownm _ (hkeep s hs hsk).1
      · rw [List.pairwise_map]
        refine g.apart.imp_of_mem ?_
        intro r s hr hs hrs
        by_cases hrk : r.k = x.k
        · have hsk : s.k ≠ x.k := fun e => hrs.1 (by rw [hrk, e])
          rw [if_pos hrk, if_neg hsk]
          refine ⟨by rw [← hrk]; exact hrs.1, ?_⟩
          rcases (hkeep s hs hsk).2 with h | h
          · rw [h]; cases hh : x.v.ownBlock <;> simp
          · exact .inr (Ne.symm h)
        · rw [if_neg hrk]
          by_cases hsk : s.k = x.k
          · rw [if_pos hsk]; exact ⟨hrk, (hkeep r hr hrk).2⟩
          · rw [if_neg hsk]; exact hrs

/-- The look-up at its operation. -/
theorem wpList_lookup_gm {w : World} {base : Nat} {E : TypeId} {size m : Nat} {rows : List Rw} {ops : Array Oper} {rest : List Oper} {o : Oper} {a : Act} {Q : Exit → Act → World → Prop}
    (hg : o.guard = none) (mo x : Operand) (T K E0 : TypeId) (ok : Bool) (hop : o.op = Op.lookup T mo x ok) (ht : P.underlying T = some (.map K E0)) (hk : P.underlying K = some (.int .i64)) (hz : (zeroValue E0).run P w = .ok (.slice none 0 0) w)
    (g : GM w base E size m rows) (hm : a.eval mo = .map (some m)) (d : Int) (hx : a.eval x = .int .i64 d)
    (h : wpList P ops Q rest (a.put o.dst (if ok then .tuple #[(rowAt rows d).v, .bool (hasRow rows d)] else (rowAt rows d).v)) w) : wpList P ops Q (o :: rest) a w := by
  refine wpList_plain hg fun K' hK' => ?_
  have hrun := g.lookup ht hk hz d ok
  unfold Oper.wp
  simp [execOp, hop, hm, hx, hrun, Result.andThen]
  exact hK' _ _ h

/-- The store at its operation. -/
theorem wpList_update_gm {w w1 : World} {base : Nat} {E : TypeId} {size m : Nat} {rows : List Rw} {ops : Array Oper} {rest : List Oper} {o : Oper} {a : Act} {Q : Exit → Act → World → Prop}
    (hg : o.guard = none) (mo x v : Operand) (T K E0 : TypeId) (hop : o.op = Op.mapUpdate T mo x v) (ht : P.underlying T = some (.map K E0)) (hk : P.underlying K = some (.int .i64))
    (g : GM w base E size m rows) (hm : a.eval mo = .map (some m)) (r : Rw) (hx : a.eval x = .int .i64 r.k) (hv : a.eval v = r.v) (hB : base ≤ w.heap.size)
    (hgr : w.grownBy w1 (rowAt rows r.k).v.ownBlock) (hown : w1.ownsRow base E size r.v r.n r.xs) (hloc : r.v.ownBlock = (rowAt rows r.k).v.ownBlock ∨ ∃ b, r.v.ownBlock = some b ∧ w.heap.size ≤ b)
    (h : ∀ w2, GM w2 base E size m (putRow' rows r) → w1.grownBy w2 (some m) → wpList P ops Q rest (a.put o.dst undef) w2) : wpList P ops Q (o :: rest) a w1 := by
  refine wpList_plain hg fun K' hK' => ?_
  obtain ⟨w2, hrun, r1, r2⟩ := g.update ht hk r hB hgr hown hloc
  unfold Oper.wp
  simp [execOp, hop, hm, hx, hv, hrun, Result.andThen]
  exact hK' _ _ (h w2 r1 r2)
end

end Go.Proofs.YtaipifjmkbcjjaaDoor
