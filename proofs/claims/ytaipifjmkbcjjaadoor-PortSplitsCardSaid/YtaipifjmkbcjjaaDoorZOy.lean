/- Walks: the reference of ports: Split. -/
import Derived.Test.YtaipifjmkbcjjaaDoorZOx
import Derived.Deep.RegionLaw
namespace Go.Proofs.YtaipifjmkbcjjaaDoor
open Go.RowKit Go.Sort

/-- As 'SplitR', and no list where there is an error. -/
def SplitQ (w w' : World) (a : Value) (es : List Et) : Prop := SplitR w w' a es ∧ (firstErr es ≠ 0 → a = .slice none 0 0)

/-- Three rows of entries, apart from each other. -/
structure Rows3 (w : World) (base : Nat) (r : Nat → Value) (es : List Et) : Prop where
  own : ∀ d : Nat, d < 3 → w.ownsRow base 57 7 (r d) (domL (1 + (d : Int)) es).length (flatE (domL (1 + (d : Int)) es))
  apart : ∀ d d' : Nat, d < 3 → d' < 3 → d ≠ d' → (r d).ownBlock = none ∨ (r d).ownBlock ≠ (r d').ownBlock
  shape : ∀ d : Nat, d < 3 → ∃ a n c, r d = .slice a n c

theorem Rows3.kept {w w' : World} {base : Nat} {r : Nat → Value} {es : List Et} (h : Rows3 w base r es) (hg : w.grownBy w' none) : Rows3 w' base r es :=
  ⟨fun d hd => (h.own d hd).kept hg (by cases (r d).ownBlock <;> simp), h.apart, h.shape⟩
theorem Rows3.below {w w' : World} {base : Nat} {r : Nat → Value} {es : List Et} (h : Rows3 w base r es) (hb : Below w.heap.size w w') : Rows3 w' base r es := h.kept (grown_below hb)
theorem Rows3.same {w : World} {base : Nat} {r : Nat → Value} {es es' : List Et} (h : Rows3 w base r es) (he : ∀ d : Nat, domL (1 + (d : Int)) es' = domL (1 + (d : Int)) es) : Rows3 w base r es' :=
  ⟨fun d hd => by rw [he d]; exact h.own d hd, h.apart, h.shape⟩

theorem Rows3.set {w : World} {T : Nat} {r : Nat → Value} {es : List Et} (h : Rows3 w (T + 1) r es) (D : Nat) (v : Value) : Rows3 (w.setCell ⟨T, D, none⟩ v) (T + 1) r es :=
  ⟨fun d hd => (h.own d hd).kept (grownBy_at w T D v) (by
    cases e : (r d).ownBlock with
    | none => left; rfl
    | some b => right; intro e'; have h1 := ((h.own d hd).lt b e).1; have e2 : b = T := Option.some.inj e'; omega), h.apart, h.shape⟩

/-- One row has got one entry more. -/
theorem Rows3.app {w w' : World} {base : Nat} {r : Nat → Value} {es es' : List Et} (h : Rows3 w base r es) (D : Nat) (hD : D < 3) (x : Et) (v' : Value)
    (hg : w.grownBy w' (r D).ownBlock) (hown : w'.ownsRow base 57 7 v' ((domL (1 + (D : Int)) es).length + 1) (flatE (domL (1 + (D : Int)) es) ++ x.cs.toList))
    (hloc : v'.ownBlock = (r D).ownBlock ∨ v'.ownBlock = some w.heap.size)
    (he : ∀ d : Nat, domL (1 + (d : Int)) es' = if d = D then domL (1 + (d : Int)) es ++ [x] else domL (1 + (d : Int)) es) (hsh : ∃ a n c, v' = .slice a n c) :
    Rows3 w' base (fun d => if d = D then v' else r d) es' := by
  refine ⟨fun d hd => ?_, fun d d' hd hd' hne => ?_, fun d hd => ?_⟩
  · skip
    rw [he d]
    by_cases e : d = D
    · subst e
      rw [if_pos rfl, if_pos rfl, List.length_append, flatE_snoc]; exact hown
    · rw [if_neg e, if_neg e]
      exact (h.own d hd).kept hg (h.apart d D hd hD e)
  · skip
    have hlt : ∀ j, j < 3 → ∀ b, (r j).ownBlock = some b → b < w.heap.size := fun j hj b hb => ((h.own j hj).lt b hb).2
    by_cases e : d = D
    · subst e
      rw [if_pos rfl, if_neg (fun e => hne e.symm)]
      rcases hloc with hl | hl
      · rw [hl]; exact h.apart d d' hd hd' hne
      · rw [hl]; right; intro e; have := hlt d' hd' _ e.symm; omega
    · rw [if_neg e]
      by_cases e' : d' = D
      · subst e'
        rw [if_pos rfl]
        rcases hloc with hl | hl
        · rw [hl]; exact h.apart d d' hd hd' hne
        · rw [hl]
          cases hb : (r d).ownBlock with
          | none => left; rfl
          | some b => right; intro e; have := hlt d hd b hb; cases e; omega
      · rw [if_neg e']; exact h.apart d d' hd hd' hne
  · skip
    by_cases e : d = D
    · rw [if_pos e]; exact hsh
    · rw [if_neg e]; exact h.shape d hd

/-- An element in cells is appended to a row of one's own, at a step of a region that draws. -/
theorem step_append_at {P : Program} {ops : Array Oper} {w : World} {o : Oper} {a : Act} {K : Act → World → Prop} {Q : Exit → Act → World → Prop} {E : Prop} (hw : Region.wanted o (yielded ops a.tmps) = true) (s x : Operand) (t : TypeId)
    (ho : o.op = .call { callee := .builtin .append, args := #[s, x], argTypes := #[t, t] })
    (base : Nat) (e : TypeId) (i : TypeInfo) (z : Value) (size bytes : Nat) (ht : P.underlying t = some (.slice e)) (hi : P.info? e = some i) (hz : i.zero = some z)
    (hsize : i.size = size) (hby : i.bytes = bytes) (hzs : z.cells.size = size) (hsz : 0 < size)
    (v : Value) (n m c : Nat) (xs news : List Value) (ad : Addr) (hs : a.eval s = v) (hown : w.ownsRow base e size v n xs)
    (hx : a.eval x = .slice (some ad) m c) (hl : news.length = m * size) (hnews : ∀ j u, news[j]? = some u → w.cell? (ad.add j) = some u) (h1 : ∀ u ∈ news, u.oneCell' = true)
    (h63 : n + m ≤ maxLen) (hbytes : (n + m) * bytes ≤ 140737488355328) (hbase : base ≤ w.heap.size)
    (h : ∀ v' w', w'.ownsRow base e size v' (n + m) (xs ++ news) → w.grownBy w' v.ownBlock → (v'.ownBlock = v.ownBlock ∨ v'.ownBlock = some w.heap.size) → K (a.put o.dst v') w') :
    if Region.wanted o (yielded ops a.tmps) = true then Oper.wp P o a w K Q else E := by
  rw [if_pos hw]
  obtain ⟨v', w', hrun, r1, r2, _, r4⟩ := run_append_own_at (P := P) (w := w) base t o.type e i z size bytes ht hi hz hsize hby hzs hsz v n xs hown ad m c news hl hnews h1 h63 hbytes hbase
  unfold Oper.wp
  simp [execOp, ho, resolve, invoke, builtin, hs, hx, hrun, Result.andThen]
  exact h _ _ r1 r2 r4

theorem ownsRow_slice {w : World} {base size n : Nat} {e : TypeId} {v : Value} {xs : List Value} (h : w.ownsRow base e size v n xs) : ∃ a n c, v = .slice a n c := by
  rcases h.2 with ⟨rfl, hn⟩ | ⟨g, cap, cur, rfl, -⟩
  · exact ⟨_, _, _, rfl⟩
  · exact ⟨_, _, _, rfl⟩

theorem cell_ad {w : World} {b o : Nat} {v : Value} (x : Obj) (h : w.drew.cell? ⟨b, o, none⟩ = some v) : (w.alloc x).drew.cell? ⟨b, o, none⟩ = some v :=
  (cell_below (w := w) (w' := w.alloc x) (v := v) (below_alloc w x) (World.block_lt_of_cell? w ⟨b, o, none⟩ h) h : (w.alloc x).cell? ⟨b, o, none⟩ = some v)
abbrev rowsA (r : Nat → Value) : Array Value := #[r 0, r 1, r 2]
theorem rowsA_at (r : Nat → Value) (d : Nat) (h : d < 3) : (rowsA r)[d]? = some (r d) := by
  obtain rfl | rfl | rfl : d = 0 ∨ d = 1 ∨ d = 2 := by omega
  all_goals rfl
theorem rowsA_set (r : Nat → Value) (D : Nat) (h : D < 3) (v : Value) : (rowsA r).setIfInBounds D v = rowsA (fun d => if d = D then v else r d) := by
  obtain rfl | rfl | rfl : D = 0 ∨ D = 1 ∨ D = 2 := by omega
  all_goals simp [rowsA]

set_option maxRecDepth 100000 in
set_option maxHeartbeats 4000000 in
theorem osplit_cells (b off cap : Nat) (es : List Et) (hm : es.length ≤ 1000) (w : World)
    (hf : ∀ k j u, (es.getD k et0).cs[j]? = some u → k < es.length → w.cell? ⟨b, off + k * 7 + j, none⟩ = some u) (ao : Option Addr) (hao : 0 < es.length → ao = some ⟨b, off, none⟩) :
    Calls Tryd.prog 36 #[.slice ao es.length cap] w fun e w' => ∃ a, e = .returned (.tuple #[a, .int .i64 (firstErr es)]) ∧ SplitQ w w' a es ∧ Below w.heap.size w w' := by
  obtain ⟨i0, hi, hz0, hz1, hz2⟩ := info_parts Tr.info57
  obtain ⟨n, hn⟩ : ∃ n, es.length = n := ⟨_, rfl⟩
  have HN := Lib.hid hn
  rw [hn] at hm hao ⊢
  clear hn
  have hen := fun (x : Et) W => entry_any x W
  have hmk : ∀ w : World, (Instr.makeSlice 58 (.int .i64 3) (.int .i64 3)).run Tryd.prog w = .ok (.slice (some ⟨w.heap.size, 0, none⟩) 3 3) (w.alloc (.cells #[.slice none 0 0, .slice none 0 0, .slice none 0 0] 55)) := fun _ => by kernel_rfl
  have HT : Hid (Bl w.heap.size (rowsA fun _ => .slice none 0 0) 55 (w.alloc (.cells #[.slice none 0 0, .slice none 0 0, .slice none 0 0] 55))) := Bl.new w _ _
  have HBT := Lib.hid (below_alloc w (.cells #[.slice none 0 0, .slice none 0 0, .slice none 0 0] 55))
  have HSz : Hid (w.heap.size + 1 ≤ (w.alloc (.cells #[.slice none 0 0, .slice none 0 0, .slice none 0 0] 55)).heap.size) := by show _ ≤ _; rw [World.size_alloc]; omega
  go_enter Tryd.func36, Tryd.ntmps36
  go_wp2_with fail
  generalize w.alloc (.cells #[.slice none 0 0, .slice none 0 0, .slice none 0 0] 55) = w3 at *
  clear hmk
  obtain ⟨T, hTT⟩ : ∃ T, w.heap.size = T := ⟨_, rfl⟩
  rw [hTT] at HT HBT HSz ⊢
  go_loopw [5] (fun i wr => ∃ (k : Nat) (r : Nat → Value), k ≤ n ∧ i = .int .i64 k ∧ Hid (Rows3 wr (T + 1) r (es.take k)) ∧ Hid (Bl T (rowsA r) 55 wr) ∧
      Hid (∀ j, j < k → entErr (es.getD j et0) = 0) ∧ Hid (Below T w wr) ∧ Hid (T + 1 ≤ wr.heap.size))
    (fun i _ => n - (intOf i).toNat)
  case atStart => exact ⟨0, fun _ => .slice none 0 0, Nat.zero_le _, rfl, ⟨fun d _ => World.ownsRow_nil _ _ _ _, fun _ _ _ _ _ => .inl rfl, fun _ _ => ⟨_, _, _, rfl⟩⟩, HT.out, fun j hj => by omega, HBT.out, HSz.out⟩
  case round =>
    obtain ⟨k, r, hk, rfl, HR, HT, HK, HB, HS⟩ := hrel
    clear HBT HSz
    have hTw : T ≤ wr.heap.size := by have := HS.out; omega
    by_cases hlt : k < n
    · obtain rfl := hao (by omega)
      have hke : k < es.length := by rw [HN.out]; exact hlt
      have a1 : (k : Int) < n := by omega
      have a2 : (0 : Int) ≤ k := by omega
      obtain ⟨x, hx⟩ : ∃ x, es.getD k et0 = x := ⟨_, rfl⟩
      have c0 := hf k 0 (.int .i64 x.t) (by rw [hx]; rfl) hke
      have c1 := hf k 1 (.int .i64 x.k) (by rw [hx]; rfl) hke
      have c2 := hf k 2 (.int .i64 x.p) (by rw [hx]; rfl) hke
      have c3 := hf k 3 (.string x.d) (by rw [hx]; rfl) hke
      have c4 := hf k 4 (.int .i64 x.c) (by rw [hx]; rfl) hke
      have c5 := hf k 5 (.int .i64 x.u) (by rw [hx]; rfl) hke
      have c6 := hf k 6 (.int .i64 x.v) (by rw [hx]; rfl) hke
      have hbb : b < T := by rw [← hTT]; exact World.block_lt_of_cell? w ⟨b, off + k * 7 + 0, none⟩ c0
      have q0 : ∀ a, wr.cell? ⟨b, a, none⟩ = w.cell? ⟨b, a, none⟩ := fun a => HB.out.cell (p := ⟨b, a, none⟩) hbb
      simp only [← q0, Nat.add_zero] at c0 c1 c2 c3 c4 c5 c6
      clear q0 hf
      have HX := Lib.hid hx
      clear hx
      have hent := hen x
      have hcb : ∀ {W W' : World} {o : Nat} {v : Value}, Below W.heap.size W W' → W.cell? ⟨b, o, none⟩ = some v → W'.cell? ⟨b, o, none⟩ = some v := fun hb h => cell_below hb (World.block_lt_of_cell? _ _ h) h
      by_cases he : entErr x = 0
      · have HC : Hid (∀ j, j < k + 1 → entErr (es.getD j et0) = 0) := fun j hj => by
          by_cases e : j = k
          · subst e; rw [HX.out]; exact he
          · exact HK.out j (by omega)
        rw [he] at hent
        by_cases h1 : x.k = 1
        · have hp : 0 ≤ x.p ∧ x.p < 24 := by
            unfold entErr at he
            rw [if_neg (by omega), if_pos h1] at he
            by_cases h : 0 ≤ x.p ∧ x.p < 24
            · exact h
            · rw [if_neg h] at he; simp at he
          obtain ⟨D, hD⟩ : ∃ D : Nat, x.p / 8 = D := ⟨(x.p / 8).toNat, by omega⟩
          have hD3 : D < 3 := by omega
          have HE : Hid (∀ d : Nat, domL (1 + (d : Int)) (es.take (k + 1)) = if d = D then domL (1 + (d : Int)) (es.take k) ++ [x] else domL (1 + (d : Int)) (es.take k)) := fun d => by
            by_cases e : d = D
            · rw [if_pos e, domL_hit _ es k hke (by rw [HX.out]; unfold isD; rw [decide_eq_true_eq]; exact ⟨h1, by omega⟩), HX.out]
            · rw [if_neg e, domL_miss _ es k hke (by rw [HX.out]; unfold isD; rw [decide_eq_false_iff_not]; omega)]
          have HO := Lib.hid (HR.out.own D hD3)
          have hln : (domL (1 + (D : Int)) (es.take k)).length ≤ 1000 := by
            have := domL_len (1 + (D : Int)) (es.take k)
            rw [List.length_take] at this; omega
          obtain ⟨t, kk, p, dd, cc, uu, vv⟩ := x
          try dsimp only at c0 c1 c2 c3 c4 c5 c6
          dsimp only at h1 hp hD hent
          subst h1
          have hp0 := hp.1
          clear hp he
          go_upto_region 9 with (first
            | (go_at_call 68; (refine (hent _).mono ?_; rintro e w4 ⟨rfl, hb1⟩; replace HR := Lib.hid (HR.out.below hb1); replace HT := Lib.hid (HT.out.below hb1 HT.out.lt); replace HB := Lib.hid (HB.out.trans (hb1.mono hTw)); replace HS := Lib.hid (Nat.le_trans HS.out hb1.size); replace HO := Lib.hid (HO.out.kept (grown_below (r := none) hb1) (by cases (r D).ownBlock <;> simp)); replace c0 := hcb hb1 c0; replace c1 := hcb hb1 c1; replace c2 := hcb hb1 c2; replace c3 := hcb hb1 c3; replace c4 := hcb hb1 c4; replace c5 := hcb hb1 c5; replace c6 := hcb hb1 c6; clear hb1))
            | fail)
          obtain ⟨x1, y1, z1, hv⟩ := HR.out.shape D hD3
          have HV := Lib.hid hv
          rw [hv] at HO
          have d7 : w4.drew.cell? ⟨T, D, none⟩ = some (.slice x1 y1 z1) := (HT.out.drew.cell D).trans ((rowsA_at r D hD3).trans (by rw [hv]))
          have d8 : w4.drew.frozen? ⟨T, D, none⟩ = false := HT.out.drew.fr D
          replace HO : Hid (w4.drew.ownsRow (T + 1) 57 7 (Value.slice x1 y1 z1) _ _) := HO.out
          replace HR : Hid (Rows3 w4.drew (T + 1) r (List.take k es)) := ⟨fun d hd => HR.out.own d hd, HR.out.apart, HR.out.shape⟩
          replace HT : Hid (Bl T (rowsA r) 55 w4.drew) := HT.out.drew
          replace HB : Hid (Below T w w4.drew) := HB.out.drew
          replace HS : Hid (T + 1 ≤ w4.drew.heap.size) := HS.out
          have d0 : w4.drew.cell? ⟨b, off + k * 7, none⟩ = some (.int .i64 t) := c0
          have d1 : w4.drew.cell? ⟨b, off + k * 7 + 1, none⟩ = some (.int .i64 1) := c1
          have d2 : w4.drew.cell? ⟨b, off + k * 7 + 2, none⟩ = some (.int .i64 p) := c2
          have d3 : w4.drew.cell? ⟨b, off + k * 7 + 3, none⟩ = some (.string dd) := c3
          have d4 : w4.drew.cell? ⟨b, off + k * 7 + 4, none⟩ = some (.int .i64 cc) := c4
          have d5 : w4.drew.cell? ⟨b, off + k * 7 + 5, none⟩ = some (.int .i64 uu) := c5
          have d6 : w4.drew.cell? ⟨b, off + k * 7 + 6, none⟩ = some (.int .i64 vv) := c6
          generalize hN : (domL (1 + (D : Int)) (List.take k es)).length = N at *
          have HNN := Lib.hid hN
          clear hent hen hv hao hcb hN
          have f1 : (0 : Int) ≤ D := by omega
          have f2 : (D : Int) < 3 := by omega
          have f3 : p.tdiv 8 = (D : Int) := by rw [← hD]; exact Int.tdiv_eq_ediv_of_nonneg hp0
          have f4 : IntKind.i64.wrap (D : Int) = D := IntWalk.i64_in _ (by omega)
          have f5 : IntKind.i64.wrap (p.tdiv 8) = (D : Int) := by rw [f3]; exact f4
          have f6 : IntKind.i64.wrap (p / 8) = (D : Int) := by rw [hD]; exact f4
          have HOx : Hid ((w4.alloc (.cells (Et.cs ⟨t, 1, p, dd, cc, uu, vv⟩) 57)).drew.ownsRow (T + 1) 57 7 (Value.slice x1 y1 z1) N (flatE (domL (1 + (D : Int)) (List.take k es)))) := HO.out.alloc _
          have HRx : Hid (Rows3 (w4.alloc (.cells (Et.cs ⟨t, 1, p, dd, cc, uu, vv⟩) 57)).drew (T + 1) r (List.take k es)) := (HR.out.kept (grown_below (below_alloc w4.drew _)) : Rows3 (w4.drew.alloc _) (T + 1) r _)
          have HBx : Hid (Below T w (w4.alloc (.cells (Et.cs ⟨t, 1, p, dd, cc, uu, vv⟩) 57)).drew) := HB.out.alloc (show T ≤ w4.heap.size from by have : T + 1 ≤ w4.heap.size := HS.out; omega) _
          have HSx : Hid (T + 1 ≤ (w4.alloc (.cells (Et.cs ⟨t, 1, p, dd, cc, uu, vv⟩) 57)).drew.heap.size) := by show _ ≤ (w4.alloc _).heap.size; rw [World.size_alloc]; have : T + 1 ≤ w4.heap.size := HS.out; omega
          have HTx : Hid (Bl T (rowsA r) 55 (w4.alloc (.cells (Et.cs ⟨t, 1, p, dd, cc, uu, vv⟩) 57)).drew) := (Bl.alloc (w := w4) HT.out _).drew
          have c7 : w4.cell? ⟨T, D, none⟩ = some (.slice x1 y1 z1) := d7
          have c8 : w4.frozen? ⟨T, D, none⟩ = false := d8
          have e0 : (w4.alloc (.cells (Et.cs ⟨t, 1, p, dd, cc, uu, vv⟩) 57)).cell? ⟨b, off + k * 7, none⟩ = some (.int .i64 t) := cell_ad _ d0
          have e1 : (w4.alloc (.cells (Et.cs ⟨t, 1, p, dd, cc, uu, vv⟩) 57)).cell? ⟨b, off + k * 7 + 1, none⟩ = some (.int .i64 1) := cell_ad _ d1
          have e2 : (w4.alloc (.cells (Et.cs ⟨t, 1, p, dd, cc, uu, vv⟩) 57)).cell? ⟨b, off + k * 7 + 2, none⟩ = some (.int .i64 p) := cell_ad _ d2
          have e3 : (w4.alloc (.cells (Et.cs ⟨t, 1, p, dd, cc, uu, vv⟩) 57)).cell? ⟨b, off + k * 7 + 3, none⟩ = some (.string dd) := cell_ad _ d3
          have e4 : (w4.alloc (.cells (Et.cs ⟨t, 1, p, dd, cc, uu, vv⟩) 57)).cell? ⟨b, off + k * 7 + 4, none⟩ = some (.int .i64 cc) := cell_ad _ d4
          have e5 : (w4.alloc (.cells (Et.cs ⟨t, 1, p, dd, cc, uu, vv⟩) 57)).cell? ⟨b, off + k * 7 + 5, none⟩ = some (.int .i64 uu) := cell_ad _ d5
          have e6 : (w4.alloc (.cells (Et.cs ⟨t, 1, p, dd, cc, uu, vv⟩) 57)).cell? ⟨b, off + k * 7 + 6, none⟩ = some (.int .i64 vv) := cell_ad _ d6
          have e7 : (w4.alloc (.cells (Et.cs ⟨t, 1, p, dd, cc, uu, vv⟩) 57)).cell? ⟨T, D, none⟩ = some (.slice x1 y1 z1) := cell_ad _ d7
          have Hg6 : Hid (∀ (W6 : World) (o : Nat) (v : Value), (w4.alloc (.cells (Et.cs ⟨t, 1, p, dd, cc, uu, vv⟩) 57)).drew.grownBy W6 (Value.slice x1 y1 z1).ownBlock → (w4.alloc (.cells (Et.cs ⟨t, 1, p, dd, cc, uu, vv⟩) 57)).cell? ⟨b, o, none⟩ = some v → W6.cell? ⟨b, o, none⟩ = some v) := fun _ _ _ hg h => hg.cell h (fun e => by have := (HO.out.lt b e.symm).1; omega)
          have Hg7 : Hid (∀ (W6 : World) (v : Value), (w4.alloc (.cells (Et.cs ⟨t, 1, p, dd, cc, uu, vv⟩) 57)).drew.grownBy W6 (Value.slice x1 y1 z1).ownBlock → (w4.alloc (.cells (Et.cs ⟨t, 1, p, dd, cc, uu, vv⟩) 57)).cell? ⟨T, D, none⟩ = some v → W6.cell? ⟨T, D, none⟩ = some v) := fun _ _ hg h => hg.cell h (fun e => by have := (HO.out.lt T e.symm).1; omega)
          clear d0 d1 d2 d3 d4 d5 d6 d7 d8
          go_region_law
            ((refine step_append_at (by go_simp) (.tmp 43) (.tmp 48) 55 rfl (T + 1) 57 i0 et0.val 7 64 Tryd.underlying55 hi hz0 hz1 hz2 rfl (by decide) (.slice x1 y1 z1) N 1 1 _ (Et.cs ⟨t, 1, p, dd, cc, uu, vv⟩).toList ⟨w4.heap.size, 0, none⟩ (by rfl) HOx.out (by rfl) (by rfl) (cells_new w4.drew _ _) (by simp [Value.oneCell']) (by unfold maxLen; omega) (by omega) HSx.out ?_; intro v' w6 hown' hgrow hloc; obtain ⟨x2, y2, z2, rfl⟩ := ownsRow_slice hown'; have HO6 := Lib.hid hown'; have HG6 := Lib.hid hgrow; have HL6 := Lib.hid hloc; have g0 := Hg6.out _ _ _ hgrow e0; have g1 := Hg6.out _ _ _ hgrow e1; have g2 := Hg6.out _ _ _ hgrow e2; have g3 := Hg6.out _ _ _ hgrow e3; have g4 := Hg6.out _ _ _ hgrow e4; have g5 := Hg6.out _ _ _ hgrow e5; have g6 := Hg6.out _ _ _ hgrow e6; have g7 := Hg7.out _ _ hgrow e7; have HT6 := Lib.hid (HTx.out.grown HG6.out (fun e => by have := (HO.out.lt T e.symm).1; omega)); have g8 := HT6.out.fr D; clear hown' hgrow hloc))
          all_goals go_wp2_with fail
          all_goals go_roundw
          all_goals first
            | (simp [intOf]; omega)
            | (refine ⟨k + 1, fun d => if d = D then .slice x2 y2 z2 else r d, by omega, by go_num, ?_, ?_, HC.out, ?_, ?_⟩
               · exact (HRx.out.app D hD3 _ _ (by rw [HV.out]; exact HG6.out) (by rw [HNN.out]; exact HO6.out) (by rw [HV.out]; exact HL6.out) HE.out ⟨_, _, _, rfl⟩).set D _
               · show Bl _ _ _ _
                 rw [← rowsA_set r D hD3]; exact HT6.out.set D _
               · exact (HBx.out.grown HG6.out (by have := HSx.out; omega) (fun k e => by have := (HOx.out.lt k e).1; omega)).setCell (p := ⟨T, D, none⟩) (Nat.le_refl _) _
               · show _ ≤ _
                 rw [World.size_setCell]; exact Nat.le_trans HSx.out HG6.out.size)
        · have HE : Hid (∀ d : Nat, domL (1 + (d : Int)) (es.take (k + 1)) = domL (1 + (d : Int)) (es.take k)) := fun d => domL_miss _ es k hke (by rw [HX.out]; unfold isD; rw [decide_eq_false_iff_not]; exact fun h => h1 h.1)
          have t1 : (x.k == 1) = false := by simpa using h1
          obtain ⟨t, kk, p, dd, cc, uu, vv⟩ := x
          try dsimp only at c0 c1 c2 c3 c4 c5 c6
          dsimp only at t1 hent
          clear he h1 HX
          go_upto_region 8 with (first
            | (go_at_call 68; (refine (hent _).mono ?_; rintro e w4 ⟨rfl, hb1⟩; replace HR := Lib.hid (HR.out.below hb1); replace HT := Lib.hid (HT.out.below hb1 HT.out.lt); replace HB := Lib.hid (HB.out.trans (hb1.mono hTw)); replace HS := Lib.hid (Nat.le_trans HS.out hb1.size); replace c0 := hcb hb1 c0; replace c1 := hcb hb1 c1; replace c2 := hcb hb1 c2; replace c3 := hcb hb1 c3; replace c4 := hcb hb1 c4; replace c5 := hcb hb1 c5; replace c6 := hcb hb1 c6; clear hb1))
            | fail)
          go_wp2_with fail
          go_roundw
          case rel => exact ⟨k + 1, r, by omega, by go_num, HR.out.same HE.out, HT.out, HC.out, HB.out, HS.out⟩
          case measure => simp [intOf]; omega
      · have HF : Hid (firstErr es = entErr x) := by
          have := firstErr_bad es k hke HK.out (by rw [HX.out]; exact he)
          rw [HX.out] at this; exact this
        have hne : (entErr x != 0) = true := by simpa using he
        clear he
        generalize entErr x = E at *
        obtain ⟨t, kk, p, dd, cc, uu, vv⟩ := x
        try dsimp only at c0 c1 c2 c3 c4 c5 c6
        go_wp2_with (first
          | (go_at_call 68; (refine (hent _).mono ?_; rintro e w4 ⟨rfl, hb1⟩; replace HB := Lib.hid (HB.out.trans (hb1.mono hTw)); clear hb1))
          | fail)
        go_ret2
        rw [HF.out]
        refine ⟨_, rfl, ⟨fun h => absurd (HF.out.symm.trans h) (by simpa using hne), fun _ => rfl⟩, ?_⟩
        first | exact HB.out | (rw [hTT]; exact HB.out)
    · have a1 : ¬ (k : Int) < n := by omega
      obtain rfl : k = n := by omega
      have HF : Hid (firstErr es = 0) := firstErr_ok es (fun j hj => HK.out j (by rw [← HN.out]; exact hj))
      have hT : es.take k = es := List.take_of_length_le (by rw [HN.out]; exact Nat.le_refl _)
      have HRR := HR.out
      rw [hT] at HRR
      have HR2 := Lib.hid HRR
      clear HRR HR hf hT hen
      go_wp2_with fail
      go_ret2
      rw [HF.out]
      refine ⟨_, rfl, ⟨fun _ => ⟨T, r 0, r 1, r 2, rfl, by omega, (HT.out.cell 0).trans rfl, (HT.out.cell 1).trans rfl, (HT.out.cell 2).trans rfl, ?_, ?_, ?_⟩, fun h => absurd HF.out h⟩, HB.out⟩
      · exact ownE_sees (HR2.out.own 0 (by omega))
      · exact ownE_sees (HR2.out.own 1 (by omega))
      · exact ownE_sees (HR2.out.own 2 (by omega))

theorem osplit_sees {v : Value} {es : List Et} {w : World} (S : SeesE w v es) (hm : es.length ≤ 1000) :
    Calls Tryd.prog 36 #[v] w fun e w' => ∃ a, e = .returned (.tuple #[a, .int .i64 (firstErr es)]) ∧ SplitQ w w' a es ∧ Below w.heap.size w w' := by
  obtain ⟨ao, cap, rfl, hc⟩ := S
  rcases Nat.eq_zero_or_pos es.length with h0 | h0
  · obtain rfl := List.eq_nil_of_length_eq_zero h0
    exact osplit_cells 0 0 cap [] (by simp) w (fun k j u _ hk => by simp at hk) ao (fun h => by simp at h)
  · obtain ⟨b, off, rfl, hx⟩ := hc h0
    exact osplit_cells b off cap es hm w hx _ (fun _ => rfl)
end Go.Proofs.YtaipifjmkbcjjaaDoor
