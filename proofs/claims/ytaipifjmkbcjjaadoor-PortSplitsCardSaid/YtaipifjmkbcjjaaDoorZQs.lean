/- Walks: PortSplits. -/
import Derived.Test.YtaipifjmkbcjjaaDoorZSy
import Derived.Test.YtaipifjmkbcjjaaDoorZOz
import Derived.Test.YtaipifjmkbcjjaaDoorZOp
import Derived.Laws.AppendOwnNone
import Derived.Lib.QuietBelow
namespace Go.Proofs.YtaipifjmkbcjjaaDoor
open Go.RowKit Go.Sort

/-- A list that came in (it may be nil) is appended to a row of one's own. -/
theorem wpList_append_src {P : Program} {ops : Array Oper} {rest : List Oper} {w : World} {o : Oper} {a : Act} {Q : Exit → Act → World → Prop} (hgd : o.guard = none) (s x : Operand) (t : TypeId)
    (ho : o.op = .call { callee := .builtin .append, args := #[s, x], argTypes := #[t, t] })
    (base : Nat) (e : TypeId) (i : TypeInfo) (z : Value) (size bytes : Nat) (ht : P.underlying t = some (.slice e)) (hi : P.info? e = some i) (hz : i.zero = some z)
    (hsize : i.size = size) (hby : i.bytes = bytes) (hzs : z.cells.size = size) (hsz : 0 < size)
    (v v2 : Value) (n m : Nat) (xs news : List Value) (hs : a.eval s = v) (hown : w.ownsRow base e size v n xs)
    (hx : a.eval x = v2) (hsrc : (v2 = .slice none 0 0 ∧ m = 0 ∧ news = []) ∨ ∃ ad c, v2 = .slice (some ad) m c ∧ news.length = m * size ∧ ∀ j u, news[j]? = some u → w.cell? (ad.add j) = some u) (h1 : ∀ u ∈ news, u.oneCell' = true)
    (h63 : n + m ≤ maxLen) (hbytes : (n + m) * bytes ≤ 140737488355328) (hbase : base ≤ w.heap.size)
    (h : ∀ v' w', w'.ownsRow base e size v' (n + m) (xs ++ news) → w.grownBy w' v.ownBlock → wpList P ops Q rest (a.put o.dst v') w') : wpList P ops Q (o :: rest) a w := by
  refine wpList_plain hgd fun K hK => ?_
  rcases hsrc with ⟨rfl, rfl, rfl⟩ | ⟨ad, c, rfl, hl, hnews⟩
  · have hrun := run_append_owned_none (P := P) (w := w) base t o.type e i size ht hi v n xs hown
    unfold Oper.wp
    simp [execOp, ho, resolve, invoke, builtin, hs, hx, hrun, Result.andThen]
    exact hK _ _ (h _ _ (by rw [Nat.add_zero, List.append_nil]; exact hown) ⟨rfl, rfl, rfl, Nat.le_refl _, fun _ _ _ => rfl⟩)
  · obtain ⟨v', w', hrun, r1, r2, _⟩ := run_append_own (P := P) w base t o.type e i z size bytes ht hi hz hsize hby hzs hsz v n xs hown ad m c news hl hnews h1 h63 hbytes hbase
    unfold Oper.wp
    simp [execOp, ho, resolve, invoke, builtin, hs, hx, hrun, Result.andThen]
    exact hK _ _ (h _ _ r1 r2)

theorem flatE_cells {w : World} {v : Value} {es : List Et} (S : SeesE w v es) (hv : v = .slice none 0 0 ∨ ∃ x n cap, v = .slice (some x) n cap) :
    (v = .slice none 0 0 ∧ es.length = 0 ∧ flatE es = []) ∨ ∃ ad c, v = .slice (some ad) es.length c ∧ (flatE es).length = es.length * 7 ∧ ∀ j u, (flatE es)[j]? = some u → w.cell? (ad.add j) = some u := by
  obtain ⟨ao, c, rfl, hc⟩ := S
  rcases hv with h | ⟨x, n, cap, h⟩
  · left
    simp only [Value.slice.injEq] at h
    obtain ⟨rfl, h0, rfl⟩ := h
    obtain rfl := List.eq_nil_of_length_eq_zero h0
    exact ⟨rfl, rfl, rfl⟩
  · right
    simp only [Value.slice.injEq] at h
    obtain ⟨rfl, rfl, rfl⟩ := h
    refine ⟨x, _, rfl, flatE_len es, fun j u hu => ?_⟩
    have hjl : j < (flatE es).length := (List.getElem?_eq_some_iff.1 hu).1
    rw [flatE_len] at hjl
    obtain ⟨b, off, he, hx⟩ := hc (by omega)
    obtain rfl := Option.some.inj he
    have hk : j / 7 < es.length := by omega
    have hr : j % 7 < 7 := Nat.mod_lt _ (by decide)
    obtain ⟨u', hu'⟩ : ∃ u', (es.getD (j / 7) et0).cs[j % 7]? = some u' := ⟨_, Array.getElem?_eq_getElem (by simpa using hr)⟩
    have h1 := flatE_at es (j / 7) (j % 7) u' hu' hk
    have ej : j / 7 * 7 + j % 7 = j := by omega
    rw [ej, hu] at h1
    obtain rfl := Option.some.inj h1
    have h2 := hx (j / 7) (j % 7) u hu' hk
    have e : (⟨b, off, none⟩ : Addr).add j = ⟨b, off + j / 7 * 7 + j % 7, none⟩ := by
      unfold Addr.add
      split
      · subst_vars; rfl
      · simp; omega
    rw [e]; exact h2

/-- The lists that were handed back, m of them (3, or none where there is an error). -/
def LL (w : World) (g m : Nat) (es : List Et) : Prop := ∀ d : Nat, d < m → ∃ v, w.cell? ⟨g, d, none⟩ = some v ∧ SeesE w v (domL (1 + (d : Int)) es)
theorem SplitQ.lists {w w' : World} {a : Value} {es : List Et} (h : SplitQ w w' a es) :
    ∃ oa g m, a = .slice oa m m ∧ (0 < m → oa = some ⟨g, 0, none⟩) ∧ m = (if firstErr es = 0 then 3 else 0) ∧ LL w' g m es := by
  by_cases h0 : firstErr es = 0
  · obtain ⟨g, v1, v2, v3, rfl, -, c1, c2, c3, s1, s2, s3⟩ := h.1 h0
    refine ⟨_, g, 3, rfl, fun _ => rfl, by rw [if_pos h0], fun d hd => ?_⟩
    obtain rfl | rfl | rfl : d = 0 ∨ d = 1 ∨ d = 2 := by omega
    · exact ⟨_, c1, s1⟩
    · exact ⟨_, c2, s2⟩
    · exact ⟨_, c3, s3⟩
  · exact ⟨none, 0, 0, h.2 h0, fun h => by omega, by rw [if_neg h0], fun d hd => by omega⟩
theorem LL.block {w w' : World} {g m : Nat} {es : List Et} (h : LL w g m es) (hb : Below w.heap.size w w') : LL w' g m es := fun d hd => by
  obtain ⟨v, hc, hs⟩ := h d hd
  exact ⟨v, cell_below hb (World.block_lt_of_cell? _ _ hc) hc, hs.block hb⟩

/-- What the walk keeps in sight of the memory. -/
structure Kept (w : World) (f c : Int) (x : Nat → Value) (v v' : Value) (g g' m : Nat) (es : List Et) (wr : World) : Prop where
  below : Below w.heap.size w wr
  cfg : Bl w.heap.size (cfgA f c x) 40 wr
  came : SeesE wr v es
  own : SeesE wr v' es
  one : LL wr g m es
  two : LL wr g' m es
theorem Kept.next {w : World} {f c : Int} {x : Nat → Value} {v v' : Value} {g g' m : Nat} {es : List Et} {wr w' : World} (h : Kept w f c x v v' g g' m es wr) (hb : Below wr.heap.size wr w') : Kept w f c x v v' g g' m es w' :=
  ⟨h.below.trans (hb.mono h.below.size), h.cfg.below hb h.cfg.lt, h.came.block hb, h.own.block hb, h.one.block hb, h.two.block hb⟩

set_option maxRecDepth 100000 in
set_option maxHeartbeats 4000000 in
theorem PortSplits_any (f c : Int) (x : Nat → Value) (ga : Option Addr) (gn gc : Nat) (hx1 : x 1 = .slice ga gn gc) (v : Value) (es : List Et) (w : World) (hg : Glob w) (S : SeesE w v es)
    (hv : v = .slice none 0 0 ∨ ∃ x n cap, v = .slice (some x) n cap) :
    Calls Tryd.prog 7 #[.agg (cfgA f c x), v] w fun e w' => e = .returned (.bool true) ∧ Below w.heap.size w w' := by
  obtain ⟨i0, hi, hz0, hz1, hz2⟩ := info_parts Tr.info57
  have haw : ∀ W, Below w.heap.size w W → Calls Tryd.prog 22 #[] W _ := fun W hb => awake_any W (hg.next hb)
  have HG := Lib.hid hg
  have HC := Lib.hid (Bl.new w (cfgA f c x) 40)
  have HB := Lib.hid (below_alloc w (.cells (cfgA f c x) 40))
  have HS := Lib.hid (S.block (below_alloc w (.cells (cfgA f c x) 40)))
  have hG : (w.alloc (.cells (cfgA f c x) 40)).cell? ⟨w.heap.size, 1, none⟩ = some (.slice ga gn gc) := by
    rw [HC.out.cell, ← hx1]; rfl
  have HV := Lib.hid hv
  have HX1 := Lib.hid hx1
  obtain ⟨ao, cap, hvv, hc⟩ := S
  obtain ⟨n, hn⟩ : ∃ n, es.length = n := ⟨_, rfl⟩
  have HN := Lib.hid hn
  rw [hn] at hvv hc
  clear hn hx1 hv hg
  by_cases h60 : (60 : Int) < (n : Int)
  · have h60' : decide ((60 : Int) < (n : Int)) = true := by simpa using h60
    clear h60 hc
    subst hvv
    go_enter Tryd.func7, Tryd.ntmps7
    go_wp2_with (first
      | (go_at_call 22; refine (haw _ HB.out).mono ?_; rintro e w6 ⟨rfl, hb1⟩; have HB6 := Lib.hid (HB.out.trans (hb1.mono HB.out.size)); clear hb1)
      | fail)
    go_ret
    exact ⟨by first | rfl | trivial, HB6.out⟩
  have h60' : decide ((60 : Int) < (n : Int)) = false := by simpa using h60
  have hn60 : n ≤ 60 := by omega
  clear h60
  by_cases h70 : (70 : Int) < (gn : Int)
  · have h70' : decide ((70 : Int) < (gn : Int)) = true := by simpa using h70
    clear h70 hc
    subst hvv
    go_enter Tryd.func7, Tryd.ntmps7
    go_wp2_with (first
      | (go_at_call 22; refine (haw _ HB.out).mono ?_; rintro e w6 ⟨rfl, hb1⟩; have HB6 := Lib.hid (HB.out.trans (hb1.mono HB.out.size)); clear hb1)
      | fail)
    go_ret
    exact ⟨by first | rfl | trivial, HB6.out⟩
  have h70' : decide ((70 : Int) < (gn : Int)) = false := by simpa using h70
  clear h70
  obtain ⟨b, off, hao, hf⟩ : ∃ b off, (0 < n → ao = some ⟨b, off, none⟩) ∧ ∀ k j u, (es.getD k et0).cs[j]? = some u → k < n → w.cell? ⟨b, off + k * 7 + j, none⟩ = some u := by
    rcases Nat.eq_zero_or_pos n with h0 | h0
    · exact ⟨0, 0, fun h => by omega, fun k j u _ h => by omega⟩
    · obtain ⟨b, off, he, hx⟩ := hc h0
      exact ⟨b, off, fun _ => he, fun k j u hu hk => hx k j u hu hk⟩
  clear hc
  subst hvv
  have hG2 : (cfgA f c x)[1]? = some (.slice ga gn gc) := by rw [← HX1.out]; rfl
  go_enter Tryd.func7, Tryd.ntmps7
  go_wp2_with fail
  generalize hW0 : w.alloc (.cells (cfgA f c x) 40) = W0 at *
  clear hW0
  go_loopw [5] (fun i wr => ∃ k : Nat, k ≤ n ∧ i = .int .i64 k ∧ Hid (∀ j, j < k → (es.getD j et0).d.size ≤ 40) ∧ wr = W0) (fun i _ => n - (intOf i).toNat)
  case atStart => exact ⟨0, Nat.zero_le _, rfl, fun j hj => by omega, rfl⟩
  case round =>
    obtain ⟨k, hk, rfl, HK, rfl⟩ := hrel
    by_cases hlt : k < n
    · obtain rfl := hao (by omega)
      have a1 : (k : Int) < n := by omega
      have a2 : (0 : Int) ≤ k := by omega
      obtain ⟨y, hy⟩ : ∃ y, es.getD k et0 = y := ⟨_, rfl⟩
      have c3 := hf k 3 (.string y.d) (by rw [hy]; rfl) hlt
      have d3 : wr.cell? ⟨b, off + k * 7 + 3, none⟩ = some (.string y.d) := cell_below HB.out (World.block_lt_of_cell? _ _ c3) c3
      clear c3 hf
      by_cases h40 : (40 : Int) < (y.d.size : Int)
      · have h40' : decide ((40 : Int) < (y.d.size : Int)) = true := by simpa using h40
        clear h40 hy
        generalize y.d = yd at *
        go_wp2_with (first
          | (go_at_call 22; refine (haw _ HB.out).mono ?_; rintro e w6 ⟨rfl, hb1⟩; have HB6 := Lib.hid (HB.out.trans (hb1.mono HB.out.size)); clear hb1)
          | fail)
        go_ret
        exact ⟨by first | rfl | trivial, HB6.out⟩
      · have h40' : decide ((40 : Int) < (y.d.size : Int)) = false := by simpa using h40
        have HK2 : Hid (∀ j, j < k + 1 → (es.getD j et0).d.size ≤ 40) := fun j hj => by
          by_cases e : j = k
          · subst e; rw [hy]; omega
          · exact HK.out j (by omega)
        clear h40 hy
        generalize y.d = yd at *
        go_wp2_with fail
        go_roundw
        case rel => exact ⟨k + 1, by omega, by go_num, HK2.out, by first | rfl | trivial⟩
        case measure => simp [intOf]; omega
    · have a1 : ¬ (k : Int) < n := by omega
      obtain rfl : k = n := by omega
      have HD : Hid (∀ e ∈ es, e.d.size ≤ 40) := fun e he => by
        obtain ⟨j, hj, rfl⟩ := List.getElem_of_mem he
        have := HK.out j (by rw [← HN.out]; exact hj)
        rw [List.getD_eq_getElem?_getD, List.getElem?_eq_getElem hj] at this
        exact this
      clear hf hao HK hk hlt
      have hsrc := flatE_cells (HS.out.block (below_alloc wr (.cells #[] 57))) HV.out
      rw [HN.out] at hsrc
      have HSRC := Lib.hid hsrc
      have hx2 : es.length ≤ 1000 := by rw [HN.out]; omega
      have HX2 := Lib.hid hx2
      clear hsrc hx2
      go_upto_region 9 with (first
        | (at_builtin; refine wpList_append_src rfl _ _ 55 rfl wr.heap.size 57 i0 et0.val 7 64 Tryd.underlying55 hi hz0 hz1 hz2 rfl (by decide) (.slice (some ⟨wr.heap.size, 0, none⟩) 0 0) (.slice ao k cap) 0 k [] (flatE es) rfl (World.ownsRow_made wr #[] 0 (Nat.le_refl _) (by decide) (by simp)) rfl HSRC.out (flatE_one es) (by unfold maxLen; omega) (by omega) (by simp) ?_; intro v' w5 hown hgrow; rw [Nat.zero_add, List.nil_append] at hown; have hb5 := (below_alloc wr (.cells #[] 57)).grown hgrow (below_alloc wr (.cells #[] 57)).size (fun k e => by cases e; exact Nat.le_refl _); have HO5 : Hid (SeesE w5 v' es) := (ownE_sees (by rw [HN.out]; exact hown)); replace HB := Lib.hid (HB.out.trans (hb5.mono HB.out.size)); replace HC := Lib.hid (HC.out.below hb5 HC.out.lt); replace HS := Lib.hid (HS.out.block hb5); clear hown hgrow hb5)
        | fail)
      clear HSRC HV
      go_upto_region 10 with (first
        | (go_at_call 35; refine (split2_sees HO5.out HX2.out).mono ?_; rintro e w6 ⟨a, rfl, hq, hb1⟩; replace HB := Lib.hid (HB.out.trans (hb1.mono HB.out.size)); replace HC := Lib.hid (HC.out.below hb1 HC.out.lt); replace HS := Lib.hid (HS.out.block hb1); replace HO5 := Lib.hid (HO5.out.block hb1); have HQ1 := Lib.hid hq.lists; clear hq hb1)
        | fail)
      obtain ⟨oa, g1, m, rfl, hoa, hm1, hl1⟩ := HQ1.out
      have HL1 := Lib.hid hl1
      have HM1 := Lib.hid hm1
      clear HQ1 hl1 hm1
      go_upto_region 11 with (first
        | (go_at_call 36; refine (osplit_sees HS.out HX2.out).mono ?_; rintro e w7 ⟨a', rfl, hq, hb1⟩; replace HB := Lib.hid (HB.out.trans (hb1.mono HB.out.size)); replace HC := Lib.hid (HC.out.below hb1 HC.out.lt); replace HS := Lib.hid (HS.out.block hb1); replace HO5 := Lib.hid (HO5.out.block hb1); replace HL1 := Lib.hid (HL1.out.block hb1); have HQ2 := Lib.hid hq.lists; clear hq hb1)
        | fail)
      obtain ⟨ob, g2, m2, rfl, hob, hm2, hl2⟩ := HQ2.out
      obtain rfl : m2 = m := by rw [hm2, HM1.out]
      have hK : Kept w f c x (.slice ao k cap) v' g1 g2 m2 es w7 := ⟨HB.out, HC.out, HS.out, HO5.out, HL1.out, hl2⟩
      have hm3 : m2 ≤ 3 := by rw [hm2]; split <;> omega
      have HK := Lib.hid hK
      clear HQ2 hl2 hm2 hK HM1 HL1 HO5 HS HC HB hG
      generalize firstErr es = E at *
      go_wp2_with fail
      go_loopw [11] (fun i wr => ∃ j : Nat, j ≤ m2 ∧ i = .int .i64 j ∧ Hid (Kept w f c x (.slice ao k cap) v' g1 g2 m2 es wr)) (fun i _ => m2 - (intOf i).toNat)
      case atStart => exact ⟨0, Nat.zero_le _, rfl, HK.out⟩
      case round =>
        obtain ⟨j, hj, rfl, HK⟩ := hrel
        by_cases hlt : j < m2
        · obtain rfl := hoa (by omega)
          obtain rfl := hob (by omega)
          have a1 : (j : Int) < m2 := by omega
          have a2 : (0 : Int) ≤ j := by omega
          obtain ⟨v1, c1, s1⟩ := HK.out.one j hlt
          obtain ⟨v2, c2, s2⟩ := HK.out.two j hlt
          have hdl : (domL (1 + (j : Int)) es).length ≤ 1000 := Nat.le_trans (domL_len _ _) HX2.out
          have c37 : ∀ d os, _ := fun d os => Calls.regrown_of (sameEntries_sees (s1.block (below_regrown wr d os)) (s2.block (below_regrown wr d os)) hdl)
          obtain ⟨p1, q1, rfl, -⟩ := s1
          obtain ⟨p2, q2, rfl, -⟩ := s2
          generalize (domL (1 + (j : Int)) es).length = L at *
          have k1 : ∀ d os, (grow (redrawn wr d) os).cell? ⟨g1, j, none⟩ = some (.slice p1 L q1) := fun d os => cell_regrown c1 d os
          have k2 : ∀ d os, (grow (redrawn wr d) os).cell? ⟨g2, j, none⟩ = some (.slice p2 L q2) := fun d os => cell_regrown c2 d os
          clear c1 c2 hdl haw
          go_upto_region 16 with fail
          refine wp_region_quiet_below (by kernel_rfl) (by kernel_rfl) ?_
          repeat (quiet_step (first | (go_at_call 37; with_reducible exact c37 _ _)))
          refine wpQuiet_nil ?_
          intro _ hw'
          obtain ⟨⟨dq, osq⟩, hw''⟩ := hw'
          subst hw''
          dsimp only
          have HK2 := Lib.hid (HK.out.next (below_regrown wr dq osq))
          generalize grow (redrawn wr dq) osq = W2 at *
          clear k1 k2 c37
          go_wp2_with fail
          go_roundw
          case rel => exact ⟨j + 1, by omega, by go_num, HK2.out⟩
          case measure => simp [intOf]; omega
        · have a1 : ¬ (j : Int) < m2 := by omega
          obtain rfl : j = m2 := by omega
          have hcd : ∀ W v, Kept w f c x (.slice ao k cap) v' g1 g2 j es W → v = v' → Calls Tryd.prog 38 #[.agg (cfgA f c x), v] W fun e w' => ∃ a, e = .returned (.tuple #[a, .int .i64 (codesS f c es).2]) ∧ SeesI w' a (codesS f c es).1 ∧ Below W.heap.size W w' := fun W v h e => by
            subst e
            exact codes_sees f c x h.own HX2.out (fun e he => by have := HD.out e he; unfold maxLen; omega) (HG.out.next h.below)
          have hocd : ∀ W, Kept w f c x (.slice ao k cap) v' g1 g2 j es W → Calls Tryd.prog 39 #[.agg (cfgA f c x), .slice ao k cap] W _ := fun W h => ocodes_sees f c x h.came HX2.out
          have hln : (codesS f c es).1.length ≤ maxLen := by
            have h1 := codesL_len f c es
            have h2 := HX2.out
            unfold codesS
            split
            · unfold maxLen; simp
            · split
              · unfold maxLen; simp
              · unfold maxLen; show (codesL f c es).length ≤ _; omega
          generalize (codesS f c es).1 = C1 at *
          generalize (codesS f c es).2 = C2 at *
          have HC0 := Lib.hid HK.out.cfg
          go_upto_region 19 with (first
            | (refine wpList_load_bl rfl 40 (.tmp 2) rfl _ rfl 40 _ _ HC0.out Tryd.underlying40 rfl info40 ?_)
            | (go_at_call 38; refine (hcd _ _ HK.out rfl).mono ?_; rintro e w8 ⟨pv, rfl, hs, hb1⟩; replace HK := Lib.hid (HK.out.next hb1); have HP := Lib.hid hs; have HC1 := Lib.hid HK.out.cfg; clear hb1 hs)
            | fail)
          clear hcd
          go_upto_region 20 with (first
            | (refine wpList_load_bl rfl 40 (.tmp 2) rfl _ rfl 40 _ _ HC1.out Tryd.underlying40 rfl info40 ?_)
            | (go_at_call 39; refine (hocd _ HK.out).mono ?_; rintro e w9 ⟨qv, rfl, hs, hb1⟩; replace HK := Lib.hid (HK.out.next hb1); replace HP := Lib.hid (HP.out.block hb1); have HQ := Lib.hid hs; clear hb1 hs)
            | fail)
          clear hocd
          go_wp2_with (first
            | (go_at_call 30; refine (sameInts_sees HP.out HQ.out hln).mono ?_; rintro e w10 ⟨rfl, hb1⟩; replace HK := Lib.hid (HK.out.next hb1); simp only [decide_true]; clear hb1)
            | (go_at_call 37; refine (sameEntries_sees HK.out.own HK.out.came HX2.out).mono ?_; rintro e w11 ⟨rfl, hb1⟩; replace HK := Lib.hid (HK.out.next hb1); clear hb1)
            | (go_at_call 22; refine (haw _ HK.out.below).mono ?_; rintro e w12 ⟨rfl, hb1⟩; replace HK := Lib.hid (HK.out.next hb1); clear hb1)
            | fail)
          go_ret
          exact ⟨by first | rfl | trivial, HK.out.below⟩
end Go.Proofs.YtaipifjmkbcjjaaDoor
