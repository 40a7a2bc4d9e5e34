/- Walks: PortSplit. -/
import Derived.Test.YtaipifjmkbcjjaaDoorZg9
import Derived.Test.YtaipifjmkbcjjaaDoorZPk
import Derived.BigQuiet
namespace Go.Proofs.YtaipifjmkbcjjaaDoor
open Go.RowKit Go.Sort

/-- How many of the first k entries belong to domain d + 1. -/
def cnt (es : List Et) (k d : Nat) : Nat := (domL (1 + (d : Int)) (es.take k)).length
abbrev cntA (es : List Et) (k : Nat) : Array Value := #[.int .i64 (cnt es k 0), .int .i64 (cnt es k 1), .int .i64 (cnt es k 2)]

theorem cntA_at (es : List Et) (k d : Nat) (h : d < 3) : (cntA es k)[d]? = some (.int .i64 (cnt es k d)) := by
  obtain rfl | rfl | rfl : d = 0 ∨ d = 1 ∨ d = 2 := by omega
  all_goals rfl
theorem cntA_step (es : List Et) (k d : Nat) (h : d < 3) (hk : k < es.length) (hx : (es.getD k et0).k = 1) (hp : (es.getD k et0).p / 8 = d) :
    (cntA es k).setIfInBounds d (.int .i64 ((cnt es k d : Int) + 1)) = cntA es (k + 1) := by
  have h1 : ∀ j : Nat, cnt es (k + 1) j = if j = d then cnt es k j + 1 else cnt es k j := fun j => by
    unfold cnt
    by_cases e : j = d
    · rw [if_pos e, domL_hit _ es k hk (by unfold isD; rw [decide_eq_true_eq]; exact ⟨hx, by rw [hp, e]⟩), List.length_append]; rfl
    · rw [if_neg e, domL_miss _ es k hk (by unfold isD; rw [decide_eq_false_iff_not]; omega)]
  obtain rfl | rfl | rfl : d = 0 ∨ d = 1 ∨ d = 2 := by omega
  all_goals simp [cntA, h1]
theorem cntA_miss (es : List Et) (k : Nat) (hk : k < es.length) (hx : (es.getD k et0).k ≠ 1) : cntA es (k + 1) = cntA es k := by
  have h1 : ∀ j : Nat, cnt es (k + 1) j = cnt es k j := fun j => by
    unfold cnt
    rw [domL_miss _ es k hk (by unfold isD; rw [decide_eq_false_iff_not]; exact fun h => hx h.1)]
  simp [cntA, h1]

theorem cnt_end (es : List Et) (d : Nat) : cnt es es.length d = (domL (1 + (d : Int)) es).length := by unfold cnt; rw [List.take_length]

/-- What one round of the law's loop reads and keeps: the lists of the domains at block g, the counters at block T. -/
structure Lists (w : World) (g : Nat) (es : List Et) : Prop where
  at' : ∀ d : Nat, d < 3 → ∃ v, w.cell? ⟨g, d, none⟩ = some v ∧ SeesE w v (domL (1 + (d : Int)) es)
theorem Lists.block {w0 w' : World} {g : Nat} {es : List Et} (h : Lists w0 g es) (hb : Below w0.heap.size w0 w') : Lists w' g es := ⟨fun d hd => by
  obtain ⟨v, hc, hs⟩ := h.at' d hd
  exact ⟨v, (hb.cell (p := ⟨g, d, none⟩) (World.block_lt_of_cell? w0 ⟨g, d, none⟩ hc)).trans hc, hs.block hb⟩⟩
theorem Lists.of {w w' : World} {a : Value} {es : List Et} (h : SplitR w w' a es) (h0 : firstErr es = 0) : ∃ g, a = .slice (some ⟨g, 0, none⟩) 3 3 ∧ Lists w' g es := by
  obtain ⟨g, v1, v2, v3, rfl, -, c1, c2, c3, s1, s2, s3⟩ := h h0
  refine ⟨g, rfl, ⟨fun d hd => ?_⟩⟩
  obtain rfl | rfl | rfl : d = 0 ∨ d = 1 ∨ d = 2 := by omega
  · exact ⟨_, c1, s1⟩
  · exact ⟨_, c2, s2⟩
  · exact ⟨_, c3, s3⟩

set_option maxRecDepth 100000 in
set_option maxHeartbeats 8000000 in
theorem PortSplit_any (a0 : Option Addr) (len0 cap0 : Nat) (z0 : List Int) (w : World) (hg : Glob w) (w0 : IsRow .i64 w a0 len0 cap0 z0) :
    Calls Tryd.prog 8 #[.slice a0 len0 cap0] w fun e w' => e = .returned (.bool true) ∧ Below w.heap.size w w' := by
  obtain ⟨i0, hi, hz0, hz1, hz2⟩ := info_parts Tr.info57
  have haw : ∀ W, Below w.heap.size w W → Calls Tryd.prog 22 #[] W _ := fun W hb => awake_any W (hg.next hb)
  have hfour := four_any
  have hmd := made24_any a0 len0 cap0 z0 w hg w0
  obtain ⟨K, hK⟩ : ∃ K, min len0 20 = K := ⟨_, rfl⟩
  have hK20 : K ≤ 20 := by omega
  have hEo0 := madL_ok (fun k => z0.getD k 0) K
  have hEs0 := madL_size (fun k => z0.getD k 0) K
  have hEl0 := madL_len (fun k => z0.getD k 0) K
  rw [hK] at hmd
  generalize madL (fun k => z0.getD k 0) K = E at *
  have hE0 := firstErr_zero E hEo0
  have hPo : ∀ e ∈ portsL E, entErr e = 0 := fun e he => hEo0 e ((List.mem_filter.1 he).1)
  have hsp : ∀ v W, SeesE W v E → Calls Tryd.prog 35 #[v] W fun e w' => ∃ g, e = .returned (.tuple #[.slice (some ⟨g, 0, none⟩) 3 3, .int .i64 0]) ∧ Lists w' g E ∧ Below W.heap.size W w' := fun v W hs => by
    refine (split_sees hs (by omega)).mono ?_
    rintro e w' ⟨a, rfl, hr, hb⟩
    obtain ⟨g, rfl, hl⟩ := Lists.of hr hE0
    exact ⟨g, by rw [hE0], hl, hb⟩
  have hcE : ∀ v W, Below w.heap.size w W → SeesE W v E → Calls Tryd.prog 38 #[.agg (cfgA 4 2 x0), v] W fun e w' => ∃ a, e = .returned (.tuple #[a, .int .i64 0]) ∧ SeesI w' a (codesL 4 2 E) ∧ Below W.heap.size W w' := fun v W hb hs => by
    have h := codes_sees 4 2 x0 hs (by omega) (fun e he => by have := hEs0 e he; unfold maxLen; omega) (hg.next hb)
    rw [codesS_ok E hEo0] at h; exact h
  have hcP : ∀ v W, Below w.heap.size w W → SeesE W v (portsL E) → Calls Tryd.prog 38 #[.agg (cfgA 4 2 x0), v] W fun e w' => ∃ a, e = .returned (.tuple #[a, .int .i64 0]) ∧ SeesI w' a (codesL 4 2 E) ∧ Below W.heap.size W w' := fun v W hb hs => by
    have hl : (portsL E).length ≤ E.length := List.length_filter_le _ _
    have h := codes_sees 4 2 x0 hs (by omega) (fun e he => by have := hEs0 e ((List.mem_filter.1 he).1); unfold maxLen; omega) (hg.next hb)
    rw [codesS_ok _ hPo, codesL_ports] at h; exact h
  have HEl := Lib.hid hEl0
  have HEo := Lib.hid hEo0
  clear hEo0 hEs0 hEl0 hE0 hPo w0 hK
  have HB := Lib.hid (Below.refl w.heap.size w)
  go_enter Tryd.func8, Tryd.ntmps8
  go_upto_region 2 with (first
    | (go_at_call 40; refine hmd.mono ?_; rintro e w1 ⟨v, rfl, hown, hb1⟩; replace HB := Lib.hid (HB.out.trans hb1); have HO := Lib.hid hown; clear hown hb1)
    | fail)
  have hS1 := ownE_sees (es := E) (by rw [HEl.out]; exact HO.out)
  obtain ⟨ao, cp, rfl, hse⟩ := hS1
  have HS1 : Hid (SeesE w1 (.slice ao E.length cp) E) := ⟨ao, cp, rfl, hse⟩
  rw [HEl.out] at HS1
  rw [HEl.out]
  clear hse hmd HO
  go_upto_region 6 with (first
    | (go_at_call 35; refine (hsp _ _ HS1.out).mono ?_; rintro e w2 ⟨g, rfl, hl, hb1⟩; replace HB := Lib.hid (HB.out.trans (hb1.mono HB.out.size)); replace HS1 := Lib.hid (HS1.out.block hb1); have HL := Lib.hid hl; clear hl hb1)
    | fail)
  clear hsp
  obtain ⟨b, off, hao, hf⟩ : ∃ b off, (0 < K → ao = some ⟨b, off, none⟩) ∧ ∀ k j u, (E.getD k et0).cs[j]? = some u → k < K → w2.cell? ⟨b, off + k * 7 + j, none⟩ = some u := by
    obtain ⟨ao', cap', hv, hc⟩ := HS1.out
    injection hv with h1 h2 h3
    subst h1
    have he := HEl.out
    rcases Nat.eq_zero_or_pos E.length with h0 | h0
    · exact ⟨0, 0, fun h => by omega, fun k j u _ h => by omega⟩
    · obtain ⟨b, off, he, hx⟩ := hc h0
      exact ⟨b, off, fun _ => he, fun k j u hu hk => hx k j u hu (by omega)⟩
  go_upto_region 7 with fail
  have HT : Hid (Bl w2.heap.size (cntA E 0) 3 (w2.alloc (.cells #[.int .i64 0, .int .i64 0, .int .i64 0] 3))) := Bl.new w2 (cntA E 0) 3
  have HB2 := Lib.hid (below_alloc w2 (.cells #[.int .i64 0, .int .i64 0, .int .i64 0] 3))
  have HSz : Hid (w2.heap.size + 1 ≤ (w2.alloc (.cells #[.int .i64 0, .int .i64 0, .int .i64 0] 3)).heap.size) := by show _ ≤ _; rw [World.size_alloc]; omega
  generalize w2.alloc (.cells #[.int .i64 0, .int .i64 0, .int .i64 0] 3) = w3 at *
  obtain ⟨T, hTT⟩ : ∃ T, w2.heap.size = T := ⟨_, rfl⟩
  rw [hTT] at HT HB2 HSz ⊢
  go_wp2_with fail
  go_loopw [6, 8] (fun p i wr => ∃ k : Nat, k ≤ K ∧ i = .int .i64 k ∧ Hid (wr.ownsRow (T + 1) 57 7 p (portsL (E.take k)).length (flatE (portsL (E.take k)))) ∧
      Hid (Bl T (cntA E k) 3 wr) ∧ Hid (Below T w2 wr) ∧ Hid (T + 1 ≤ wr.heap.size))
    (fun _ i _ => K - (intOf i).toNat)
  case atStart => exact ⟨0, Nat.zero_le _, rfl, World.ownsRow_nil _ _ _ _, HT.out, HB2.out, HSz.out⟩
  case round =>
    obtain ⟨k, hk, rfl, HO, HT, HB2, HSz⟩ := hrel
    by_cases hlt : k < K
    · obtain rfl := hao (by omega)
      have hke : k < E.length := by rw [HEl.out]; exact hlt
      have a1 : (k : Int) < K := by omega
      have a2 : (0 : Int) ≤ k := by omega
      obtain ⟨x, hx⟩ : ∃ x, E.getD k et0 = x := ⟨_, rfl⟩
      have c0 := hf k 0 (.int .i64 x.t) (by rw [hx]; rfl) hlt
      have c1 := hf k 1 (.int .i64 x.k) (by rw [hx]; rfl) hlt
      have c2 := hf k 2 (.int .i64 x.p) (by rw [hx]; rfl) hlt
      have c3 := hf k 3 (.string x.d) (by rw [hx]; rfl) hlt
      have c4 := hf k 4 (.int .i64 x.c) (by rw [hx]; rfl) hlt
      have c5 := hf k 5 (.int .i64 x.u) (by rw [hx]; rfl) hlt
      have c6 := hf k 6 (.int .i64 x.v) (by rw [hx]; rfl) hlt
      have hbb : b < T := by rw [← hTT]; exact World.block_lt_of_cell? w2 ⟨b, off + k * 7 + 0, none⟩ c0
      have q0 : ∀ a, wr.cell? ⟨b, a, none⟩ = w2.cell? ⟨b, a, none⟩ := fun a => HB2.out.cell (p := ⟨b, a, none⟩) hbb
      simp only [← q0, Nat.add_zero] at c0 c1 c2 c3 c4 c5 c6
      clear q0 hf hao
      have HX := Lib.hid hx
      have heo : entErr x = 0 := HEo.out x (by rw [← hx, List.getD_eq_getElem?_getD, List.getElem?_eq_getElem hke]; exact List.getElem_mem hke)
      have hkl : (portsL (E.take k)).length ≤ 20 := by
        have h1 : (portsL (E.take k)).length ≤ (E.take k).length := List.length_filter_le _ _
        rw [List.length_take] at h1; omega
      by_cases h1 : x.k = 1
      · have hp : 0 ≤ x.p ∧ x.p < 24 := by
          unfold entErr at heo
          rw [if_neg (by omega), if_pos h1] at heo
          by_cases h : 0 ≤ x.p ∧ x.p < 24
          · exact h
          · rw [if_neg h] at heo; simp at heo
        obtain ⟨D, hD⟩ : ∃ D : Nat, x.p / 8 = D := ⟨(x.p / 8).toNat, by omega⟩
        have hD3 : D < 3 := by omega
        obtain ⟨hn1, hn2⟩ := domL_nth E k hke x hx h1
        rw [hD] at hn1 hn2
        have HS2 : Hid (cntA E (k + 1) = (cntA E k).setIfInBounds D (.int .i64 ((cnt E k D : Int) + 1))) := (cntA_step E k D hD3 hke (by rw [hx]; exact h1) (by rw [hx]; exact hD)).symm
        have HF2 : Hid (portsL (E.take (k + 1)) = portsL (E.take k) ++ [x]) := by
          have h := portsL_hit E k hke (by rw [hx]; unfold isP; simp [h1])
          rw [hx] at h; exact h
        have hp0 := hp.1
        obtain ⟨t, kk, p, dd, cc, uu, vv⟩ := x
        try dsimp only at c0 c1 c2 c3 c4 c5 c6
        dsimp only at h1 hp hD hp0
        subst h1
        clear hp heo HX hx
        go_upto_region 12 with (first
          | (at_builtin; refine wpList_append_own _ rfl _ _ 55 rfl (T + 1) 57 i0 et0.val 7 64 Tryd.underlying55 hi hz0 hz1 hz2 rfl (by decide) _ _ _ rfl (HO.out.alloc _) ⟨wr.heap.size, 0, none⟩ 1 1 (Et.cs ⟨t, 1, p, dd, cc, uu, vv⟩).toList rfl rfl (cells_new _ _ _) (by simp [Value.oneCell']) (by unfold maxLen; omega) (by omega) (by simp only [World.size_alloc]; have := HSz.out; omega) ?_; intro v' w6 hown' hgrow _; have HO6 := Lib.hid hown'; have HG6 := Lib.hid hgrow; clear hown' hgrow)
          | fail)
        have HT6 := Lib.hid ((HT.out.alloc (.cells (Et.cs ⟨t, 1, p, dd, cc, uu, vv⟩) 57)).grown HG6.out (fun e => by have := (HO.out.lt T e.symm).1; omega))
        have hsa : T ≤ wr.heap.size := by have := HSz.out; omega
        have hsb : T ≤ (wr.alloc (.cells (Et.cs ⟨t, 1, p, dd, cc, uu, vv⟩) 57)).heap.size := by rw [World.size_alloc]; omega
        have HB6 := Lib.hid ((HB2.out.alloc hsa (.cells (Et.cs ⟨t, 1, p, dd, cc, uu, vv⟩) 57)).grown HG6.out hsb (fun k e => by have := (HO.out.lt k e).1; omega))
        have HSz6 : Hid (T + 1 ≤ w6.heap.size) := by show _ ≤ _; have h1 := HG6.out.size; rw [World.size_alloc] at h1; have h2 := HSz.out; omega
        have q6 : ∀ a, w6.cell? ⟨b, a, none⟩ = wr.cell? ⟨b, a, none⟩ := fun a => (HB6.out.cell (p := ⟨b, a, none⟩) hbb).trans (HB2.out.cell (p := ⟨b, a, none⟩) hbb).symm
        simp only [← q6] at c0 c1 c2 c3 c4 c5 c6
        clear q6 HG6 HT HB2 HO HSz hsa hsb
        go_upto_region 13 with fail
        have hA := (HT6.out.cell D).trans (cntA_at E k D hD3)
        have hAf := HT6.out.fr D
        obtain ⟨vl, hG, al, cl, rfl, hel⟩ := ((HL.out).block (by rw [hTT]; exact HB6.out)).at' D hD3
        obtain ⟨b2, off2, rfl, hq⟩ := hel (by omega)
        change cnt E k D < _ at hn1
        change (domL (1 + (D : Int)) E).getD (cnt E k D) et0 = _ at hn2
        have e0 := hq (cnt E k D) 0 (.int .i64 t) (by rw [hn2]; rfl) hn1
        have e1 := hq (cnt E k D) 1 (.int .i64 1) (by rw [hn2]; rfl) hn1
        have e2 := hq (cnt E k D) 2 (.int .i64 p) (by rw [hn2]; rfl) hn1
        have e3 := hq (cnt E k D) 3 (.string dd) (by rw [hn2]; rfl) hn1
        have e4 := hq (cnt E k D) 4 (.int .i64 cc) (by rw [hn2]; rfl) hn1
        have e5 := hq (cnt E k D) 5 (.int .i64 uu) (by rw [hn2]; rfl) hn1
        have e6 := hq (cnt E k D) 6 (.int .i64 vv) (by rw [hn2]; rfl) hn1
        have hc20 : cnt E k D ≤ 20 := by
          have h1 : cnt E k D ≤ (E.take k).length := domL_len _ _
          rw [List.length_take] at h1; omega
        clear hel hq hn2
        generalize cnt E k D = C at *
        generalize (domL (1 + (D : Int)) E).length = N at *
        simp only [Nat.add_zero] at e0
        have f1 : (0 : Int) ≤ D := by omega
        have f2 : (D : Int) < 3 := by omega
        have f3 : (0 : Int) ≤ C := by omega
        have f4 : (C : Int) < N := by omega
        have f5 : decide ((N : Int) ≤ C) = false := by simp; omega
        have f6 : decide (N ≤ C) = false := by simp; omega
        have f7 : IntKind.i64.wrap ((C : Int) + 1) = C + 1 := IntWalk.i64_in _ (by omega)
        go_quiet (fail)
        have HT7 : Hid (Bl T (cntA E k) 3 (w6.drewN nq)) := HT6.out.drewN nq
        have HB7 : Hid (Below T w2 (w6.drewN nq)) := belowN HB6.out nq
        have HO7 : Hid ((w6.drewN nq).ownsRow (T + 1) 57 7 v' _ _) := HO6.out
        have HSz7 : Hid (T + 1 ≤ (w6.drewN nq).heap.size) := HSz6.out
        have hA7 : (w6.drewN nq).cell? ⟨T, D, none⟩ = some (.int .i64 C) := hA
        have hAf7 : (w6.drewN nq).frozen? ⟨T, D, none⟩ = false := hAf
        generalize w6.drewN nq = w7 at *
        clear HT6 HB6 HO6 HSz6 hA hAf hG e0 e1 e2 e3 e4 e5 e6 c0 c1 c2 c3 c4 c5 c6 f5 f6
        go_wp2_with fail
        go_roundw
        case rel =>
          refine ⟨k + 1, by omega, by go_num, ?_, ?_, ?_, ?_⟩
          · show World.ownsRow _ _ _ _ _ _ _
            rw [HF2.out, List.length_append, flatE_snoc]
            exact HO7.out.kept (grownBy_at w7 T D (.int .i64 ((C : Int) + 1))) (by
              cases e : v'.ownBlock with
              | none => left; rfl
              | some b => right; intro e'; have h1 := (HO7.out.lt b e).1; have e2 : b = T := Option.some.inj e'; omega)
          · show Bl _ _ _ _
            rw [HS2.out]; exact HT7.out.set D _
          · exact HB7.out.setCell (p := ⟨T, D, none⟩) (Nat.le_refl _) _
          · show _ ≤ _
            rw [World.size_setCell]; exact HSz7.out
        case measure => simp [intOf]; omega
      · have HS2 : Hid (cntA E (k + 1) = cntA E k) := cntA_miss E k hke (by rw [hx]; exact h1)
        have HF2 : Hid (portsL (E.take (k + 1)) = portsL (E.take k)) := portsL_miss E k hke (by rw [hx]; unfold isP; simpa using h1)
        have t1 : (x.k == 1) = false := by simpa using h1
        obtain ⟨t, kk, p, dd, cc, uu, vv⟩ := x
        try dsimp only at c0 c1 c2 c3 c4 c5 c6
        dsimp only at t1
        clear h1 HX hx heo
        go_wp2_with fail
        go_roundw
        case rel =>
          refine ⟨k + 1, by omega, by go_num, ?_, ?_, HB2.out, HSz.out⟩
          · show World.ownsRow _ _ _ _ _ _ _
            rw [HF2.out]; exact HO.out
          · show Bl _ _ _ _
            rw [HS2.out]; exact HT.out
        case measure => simp [intOf]; omega
    · have a1 : ¬ (k : Int) < K := by omega
      obtain rfl : k = K := by omega
      have hp := HO.out
      rw [← HEl.out, List.take_length] at hp
      have HS2 := Lib.hid (ownE_sees hp)
      have hct := HT.out
      have hBE := (HB.out.trans ((by rw [hTT]; exact HB2.out : Below w2.heap.size w2 wr).mono HB.out.size))
      have HBr := Lib.hid hBE
      have HSE := Lib.hid (HS1.out.block (by rw [hTT]; exact HB2.out))
      have HLr := Lib.hid (HL.out.block (by rw [hTT]; exact HB2.out))
      go_upto_region 17 with (first
        | (go_at_call 24; refine (hfour _).mono ?_; rintro e w4 ⟨rfl, hb1⟩; replace HBr := Lib.hid (HBr.out.trans (hb1.mono HBr.out.size)); replace HSE := Lib.hid (HSE.out.block hb1); replace HS2 := Lib.hid (HS2.out.block hb1); replace HLr := Lib.hid (HLr.out.block hb1); replace HT := Lib.hid (HT.out.below hb1 HT.out.lt); clear hb1)
        | (go_at_call 38; refine (hcE _ _ HBr.out HSE.out).mono ?_; rintro e w5 ⟨pv, rfl, hs, hb1⟩; replace HBr := Lib.hid (HBr.out.trans (hb1.mono HBr.out.size)); replace HS2 := Lib.hid (HS2.out.block hb1); replace HLr := Lib.hid (HLr.out.block hb1); replace HT := Lib.hid (HT.out.below hb1 HT.out.lt); have HP := Lib.hid hs; clear hb1 hs)
        | fail)
      go_upto_region 18 with (first
        | (go_at_call 24; refine (hfour _).mono ?_; rintro e w6 ⟨rfl, hb1⟩; replace HBr := Lib.hid (HBr.out.trans (hb1.mono HBr.out.size)); replace HP := Lib.hid (HP.out.block hb1); replace HS2 := Lib.hid (HS2.out.block hb1); replace HLr := Lib.hid (HLr.out.block hb1); replace HT := Lib.hid (HT.out.below hb1 HT.out.lt); clear hb1)
        | (go_at_call 38; refine (hcP _ _ HBr.out HS2.out).mono ?_; rintro e w7 ⟨qv, rfl, hs, hb1⟩; replace HBr := Lib.hid (HBr.out.trans (hb1.mono HBr.out.size)); replace HP := Lib.hid (HP.out.block hb1); replace HLr := Lib.hid (HLr.out.block hb1); replace HT := Lib.hid (HT.out.below hb1 HT.out.lt); have HQ := Lib.hid hs; clear hb1 hs)
        | fail)
      obtain ⟨ap, cpp, rfl, hpc⟩ := HP.out
      have HP2 : Hid (SeesI w7 (.slice ap _ cpp) (codesL 4 2 E)) := ⟨ap, cpp, rfl, hpc⟩
      obtain ⟨ax, cx, rfl, -⟩ := HS2.out
      have hcl := codesL_count 4 2 E
      have hcl2 : (codesL 4 2 E).length ≤ 20 := by have := codesL_len 4 2 E; have := HEl.out; omega
      have hsame : ∀ W, Below w7.heap.size w7 W → Calls Tryd.prog 30 #[.slice ap (codesL 4 2 E).length cpp, qv] W fun e w' => e = .returned (.bool true) ∧ Below W.heap.size W w' := fun W hb => by
        have h := sameInts_sees (HP2.out.block hb) (HQ.out.block hb) (by unfold maxLen; omega)
        simpa using h
      have hk := HEl.out
      have ht0 := (HT.out.cell 0).trans (cntA_at E k 0 (by omega))
      have ht1 := (HT.out.cell 1).trans (cntA_at E k 1 (by omega))
      have ht2 := (HT.out.cell 2).trans (cntA_at E k 2 (by omega))
      rw [← hk, cnt_end] at ht0 ht1 ht2
      obtain ⟨vl0, g0, al0, cl0, rfl, -⟩ := HLr.out.at' 0 (by omega)
      obtain ⟨vl1, g1, al1, cl1, rfl, -⟩ := HLr.out.at' 1 (by omega)
      obtain ⟨vl2, g2, al2, cl2, rfl, -⟩ := HLr.out.at' 2 (by omega)
      rw [hcl] at hsame ⊢
      generalize (domL (1 + ((0 : Nat) : Int)) E).length = n0 at *
      generalize (domL (1 + ((1 : Nat) : Int)) E).length = n1 at *
      generalize (domL (1 + ((2 : Nat) : Int)) E).length = n2 at *
      generalize (portsL E).length = N at *
      have hBW : ∀ d os, Below w.heap.size w (grow (redrawn w7 d) os) := fun d os => HBr.out.trans ((below_regrown w7 d os).mono HBr.out.size)
      have k0 : ∀ d os, (grow (redrawn w7 d) os).cell? ⟨T, 0, none⟩ = some (.int .i64 n0) := fun d os => cell_regrown ht0 d os
      have k1 : ∀ d os, (grow (redrawn w7 d) os).cell? ⟨T, 1, none⟩ = some (.int .i64 n1) := fun d os => cell_regrown ht1 d os
      have k2 : ∀ d os, (grow (redrawn w7 d) os).cell? ⟨T, 2, none⟩ = some (.int .i64 n2) := fun d os => cell_regrown ht2 d os
      have k3 : ∀ d os, (grow (redrawn w7 d) os).cell? ⟨g, 0, none⟩ = some (.slice al0 n0 cl0) := fun d os => cell_regrown g0 d os
      have k4 : ∀ d os, (grow (redrawn w7 d) os).cell? ⟨g, 1, none⟩ = some (.slice al1 n1 cl1) := fun d os => cell_regrown g1 d os
      have k5 : ∀ d os, (grow (redrawn w7 d) os).cell? ⟨g, 2, none⟩ = some (.slice al2 n2 cl2) := fun d os => cell_regrown g2 d os
      have c30 : ∀ d os, _ := fun d os => Calls.regrown_of (hsame (grow (redrawn w7 d) os) (below_regrown w7 d os))
      have c22 : ∀ d os, _ := fun d os => Calls.regrown_of (haw (grow (redrawn w7 d) os) (hBW d os))
      clear hBW hcE hcP hfour hsame haw ht0 ht1 ht2 g0 g1 g2 hpc
      refine wp_region_quiet_below (by kernel_rfl) (by kernel_rfl) ?_
      repeat (quiet_step (first | (go_at_call 30; with_reducible exact c30 _ _) | (go_at_call 22; with_reducible exact c22 _ _)))
      refine wpQuiet_nil ?_
      intro _ hw'
      obtain ⟨⟨dq, osq⟩, hw''⟩ := hw'
      subst hw''
      dsimp only
      replace HBr := Lib.hid (HBr.out.trans ((below_regrown w7 dq osq).mono HBr.out.size))
      go_wp2_with fail
      go_ret
      exact ⟨by first | rfl | trivial, HBr.out⟩
end Go.Proofs.YtaipifjmkbcjjaaDoor
