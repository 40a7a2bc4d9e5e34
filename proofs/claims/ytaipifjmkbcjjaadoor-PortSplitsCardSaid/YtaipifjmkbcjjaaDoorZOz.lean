/- Walks: the reference of ports: Codes. -/
import Derived.Test.YtaipifjmkbcjjaaDoorZOy
import Derived.Deep.RegionHeld3
import Derived.Deep.MidRow
namespace Go.Proofs.YtaipifjmkbcjjaaDoor
open Go.RowKit Go.Sort

theorem cfg_run {w : World} {T : Nat} {f c : Int} {y : Nat → Value} (h : Bl T (cfgA f c y) 40 w) :
    (Instr.loadAt 40 (.pointer (some ⟨T, 0, none⟩))).run Tryd.prog w = .ok (.agg (cfgA f c y)) w := by
  have := run_loadAt_mid (P := Tryd.prog) w T 0 40 (cfgA f c y).toList _ (fun j v hv => by rw [Nat.zero_add, h.cell]; simpa using hv) Tryd.underlying40 rfl info40
  simpa using this

/-- The load of a whole configuration, under a name of its own: the walk does not open it cell by cell. -/
noncomputable def Load40 (p : Value) : Sem Value := Instr.loadAt 40 p
theorem load40_fold (p : Value) : Instr.loadAt 40 p = Load40 p := rfl
theorem cfg_load {w : World} {T : Nat} {f c : Int} {y : Nat → Value} (h : Bl T (cfgA f c y) 40 w) : (Load40 (.pointer (some ⟨T, 0, none⟩))).run Tryd.prog w = .ok (.agg (cfgA f c y)) w := cfg_run h
attribute [local go_sem ↓] load40_fold

set_option maxRecDepth 100000 in
set_option maxHeartbeats 4000000 in
theorem ocodes_cells (f c : Int) (y : Nat → Value) (b off cap : Nat) (es : List Et) (hm : es.length ≤ 1000) (w : World)
    (hf : ∀ k j u, (es.getD k et0).cs[j]? = some u → k < es.length → w.cell? ⟨b, off + k * 7 + j, none⟩ = some u) (ao : Option Addr) (hao : 0 < es.length → ao = some ⟨b, off, none⟩) :
    Calls Tryd.prog 39 #[.agg (cfgA f c y), .slice ao es.length cap] w fun e w' => ∃ a, e = .returned (.tuple #[a, .int .i64 (codesS f c es).2]) ∧ SeesI w' a (codesS f c es).1 ∧ Below w.heap.size w w' := by
  obtain ⟨i0, hi, hz0, hz1, hz2⟩ := info_parts Tr.info3
  have HC := Lib.hid (Bl.new w (cfgA f c y) 40)
  have HB := Lib.hid (below_alloc w (.cells (cfgA f c y) 40))
  have hva := fun W => ovalid_any f c y W
  by_cases hv : vErr f c = 0
  · have hd : decide (vErr f c = 0) = true := by simpa using hv
    rw [hd] at hva
    have hent := fun (x : Et) W => entry_any x W
    obtain ⟨n, hn⟩ : ∃ n, es.length = n := ⟨_, rfl⟩
    have HN := Lib.hid hn
    have HV := Lib.hid hv
    rw [hn] at hm hao ⊢
    clear hn hv hd
    go_enter Tryd.func39, Tryd.ntmps39
    go_wp2_with (first
      | (refine wpList_load_bl rfl 40 (.tmp 2) rfl _ rfl 40 _ _ HC.out Tryd.underlying40 rfl info40 ?_)
      | (go_at_call 65; refine (hva _).mono ?_; rintro e w1 ⟨rfl, hb1⟩; replace HB := Lib.hid (HB.out.trans (hb1.mono HB.out.size)); replace HC := Lib.hid (HC.out.below hb1 HC.out.lt); clear hb1)
      | fail)
    clear hva
    obtain ⟨T, hTT⟩ : ∃ T, w.heap.size = T := ⟨_, rfl⟩
    rw [hTT] at HC HB ⊢
    go_loopw [6, 7] (fun v i wr => ∃ k : Nat, k ≤ n ∧ i = .int .i64 k ∧ Hid (wr.ownsRow (T + 1) 3 1 v (codesL f c (es.take k)).length ((codesL f c (es.take k)).map (fun i => Value.int .i64 i))) ∧
        Hid (Bl T (cfgA f c y) 40 wr) ∧ Hid (Below T w wr) ∧ Hid (∀ j, j < k → entErr (es.getD j et0) = 0))
      (fun _ i _ => n - (intOf i).toNat)
    case atStart => exact ⟨0, Nat.zero_le _, rfl, World.ownsRow_nil _ _ _ _, HC.out, HB.out, fun j hj => by omega⟩
    case round =>
      obtain ⟨k, hk, rfl, HO, HC, HB, HK⟩ := hrel
      have hTw : T ≤ wr.heap.size := Nat.le_of_lt HC.out.lt
      by_cases hlt : k < n
      · obtain rfl := hao (by omega)
        have hke : k < es.length := by rw [HN.out]; exact hlt
        have a1 : (k : Int) < n := by omega
        have a2 : (0 : Int) ≤ k := by omega
        obtain ⟨x, hx⟩ : ∃ x, es.getD k et0 = x := ⟨_, rfl⟩
        have c0 := hf k 0 (.int .i64 x.t) (by rw [hx]; rfl) hke
        have c1 := hf k 1 (.int .i64 x.k) (by rw [hx]; rfl) hke
        have c2 := hf k 2 (.int .i64 x.p) (by rw [hx]; rfl) hke
        have c3 := hf k 3 (.string x.d) (by rw [hx]; rfl) hke
        have c4 := hf k 4 (.int .i64 x.c) (by rw [hx]; rfl) hke
        have c5 := hf k 5 (.int .i64 x.u) (by rw [hx]; rfl) hke
        have c6 := hf k 6 (.int .i64 x.v) (by rw [hx]; rfl) hke
        have hbb : b < T := by rw [← hTT]; exact World.block_lt_of_cell? w ⟨b, off + k * 7 + 0, none⟩ c0
        have q0 : ∀ a, wr.cell? ⟨b, a, none⟩ = w.cell? ⟨b, a, none⟩ := fun a => HB.out.cell (p := ⟨b, a, none⟩) hbb
        simp only [← q0, Nat.add_zero] at c0 c1 c2 c3 c4 c5 c6
        clear q0 hf
        have HX := Lib.hid hx
        clear hx
        have hen := hent x
        have hcb : ∀ {W W' : World} {o : Nat} {v : Value}, Below W.heap.size W W' → W.cell? ⟨b, o, none⟩ = some v → W'.cell? ⟨b, o, none⟩ = some v := fun hb h => cell_below hb (World.block_lt_of_cell? _ _ h) h
        have hll := codesL_len f c (es.take k)
        rw [List.length_take] at hll
        by_cases he : entErr x = 0
        · have HK2 : Hid (∀ j, j < k + 1 → entErr (es.getD j et0) = 0) := fun j hj => by
            by_cases e : j = k
            · subst e; rw [HX.out]; exact he
            · exact HK.out j (by omega)
          rw [he] at hen
          by_cases h1 : x.k = 1
          · have hjd : ∀ W, Calls Tryd.prog 33 #[.agg (cfgA f c y), .int .i64 x.p, .string x.d] W fun e w' => ∃ j1 j2 j3 j5, e = .returned (.tuple #[.agg #[.int .i64 j1, .int .i64 j2, .int .i64 j3], .int .i64 (codeE f c x), .int .i64 j5]) ∧ Below W.heap.size W w' := fun W => by
              obtain ⟨⟨j, er⟩, hj⟩ : ∃ q, jdgE f c x.p x.d.data.toList = q := ⟨_, rfl⟩
              refine (ojudgeE_any f c x.p y x.d W j er hj).mono ?_
              rintro e w' ⟨rfl, hb'⟩
              exact ⟨j.k, j.a, j.b, er, by unfold codeE; rw [hj], hb'⟩
            have HE : Hid (codesL f c (es.take (k + 1)) = codesL f c (es.take k) ++ [codeE f c x]) := by
              have := codesL_hit f c es k hke (by rw [HX.out]; unfold isP; simp [h1])
              rw [HX.out] at this; exact this
            generalize codeE f c x = cd at *
            obtain ⟨t, kk, p, dd, cc, uu, vv⟩ := x
            try dsimp only at c0 c1 c2 c3 c4 c5 c6
            dsimp only at h1 hjd hen
            subst h1
            clear he HX hent
            go_upto_region 11 with (first
              | (go_at_call 68; (refine (hen _).mono ?_; rintro e w4 ⟨rfl, hb1⟩; replace HC := Lib.hid (HC.out.below hb1 HC.out.lt); replace HB := Lib.hid (HB.out.trans (hb1.mono hTw)); replace HO := Lib.hid (HO.out.kept (grown_below (r := none) hb1) (by cases u6.ownBlock <;> simp)); replace c0 := hcb hb1 c0; replace c1 := hcb hb1 c1; replace c2 := hcb hb1 c2; replace c3 := hcb hb1 c3; replace c4 := hcb hb1 c4; replace c5 := hcb hb1 c5; replace c6 := hcb hb1 c6; clear hb1))
              | fail)
            have d2 : w4.drew.cell? ⟨b, off + k * 7 + 2, none⟩ = some (.int .i64 p) := c2
            have d3 : w4.drew.cell? ⟨b, off + k * 7 + 3, none⟩ = some (.string dd) := c3
            have d0 := cfg_load (w := w4.drew) HC.out.drew
            replace HC : Hid (Bl T (cfgA f c y) 40 w4.drew) := HC.out.drew
            replace HB : Hid (Below T w w4.drew) := HB.out.drew
            replace HO : Hid (w4.drew.ownsRow (T + 1) 3 1 u6 _ _) := HO.out
            replace hTw : T ≤ w4.drew.heap.size := Nat.le_of_lt HC.out.lt
            clear c0 c1 c2 c3 c4 c5 c6 hen hao hk
            have Hcr : Hid (∀ W : World, Bl T (cfgA f c y) 40 W → (Load40 (.pointer (some ⟨T, 0, none⟩))).run Tryd.prog W = .ok (.agg (cfgA f c y)) W) := fun W h => cfg_load h
            have Hcb : Hid (∀ (W W' : World) (o : Nat) (v : Value), Below W.heap.size W W' → W.cell? ⟨b, o, none⟩ = some v → W'.cell? ⟨b, o, none⟩ = some v) := fun W W' o v h1 h2 => hcb h1 h2
            clear hcb
            have hne : T ≠ w4.heap.size := by have : T < w4.heap.size := HC.out.lt; omega
            have hne2 : w4.heap.size ≠ b := by have : T < w4.heap.size := HC.out.lt; omega
            have HLO : Hid (∀ b, u6.ownBlock = some b → b < w4.heap.size) := fun b e => (HO.out.lt b e).2
            have Hbx : Hid (∀ (W W' : World) (o : Obj), Below (W.alloc o).heap.size (W.alloc o).drew W' → Below W.heap.size W W') := fun W W' o h => (below_alloc W o).trans ((show Below (W.alloc o).heap.size (W.alloc o) W' from ⟨h.os, h.tape, h.output, h.size, h.block⟩).mono (by rw [World.size_alloc]; omega))
            go_region_held3 (fun w' => (Load40 (.pointer (some ⟨T, 0, none⟩))).run Tryd.prog w' = .ok (.agg (cfgA f c y)) w' ∧ w'.cell? ⟨b, off + k * 7 + 2, none⟩ = some (.int .i64 p) ∧ w'.cell? ⟨b, off + k * 7 + 3, none⟩ = some (.string dd)) (first | exact ⟨d0, d2, d3⟩ | exact ⟨Hcr.out _ (Bl.alloc (w := w4) HC.out _).drew, cell_ad _ d2, cell_ad _ d3⟩ | (refine ⟨Hcr.out _ (HC.out.alloc _), ?_, ?_⟩ <;> go_keep) | (refine ⟨Hcr.out _ (((HC.out.other _ _ _ hne).other _ _ _ hne).other _ _ _ hne), ?_, ?_⟩ <;> go_keep) | go_keep) (first
              | (go_at_call 33; refine (hjd _).mono ?_; rintro e w5 ⟨j1, j2, j3, j5, rfl, hb1⟩; (replace HC := Lib.hid (HC.out.below hb1 HC.out.lt); replace HB := Lib.hid (HB.out.trans (hb1.mono hTw)); replace HO := Lib.hid (HO.out.kept (grown_below (r := none) hb1) (by cases u6.ownBlock <;> simp)); replace d0 := Hcr.out _ HC.out; replace d2 := Hcb.out _ _ _ _ hb1 d2; replace d3 := Hcb.out _ _ _ _ hb1 d3; clear hb1))
              | (go_at_call 33; refine (hjd _).mono ?_; rintro e w5 ⟨j1, j2, j3, j5, rfl, hb1⟩; (have hE := (Bl.new w4 #[.int .i64 0, .int .i64 0, .int .i64 0] 43).drew.below hb1 (by show w4.heap.size < (w4.alloc _).heap.size; rw [World.size_alloc]; omega); have hb3 := Hbx.out w4 _ _ hb1; have hb2 : Below w4.drew.heap.size w4.drew w5 := ⟨hb3.os, hb3.tape, hb3.output, hb3.size, hb3.block⟩; replace HC := Lib.hid (HC.out.below hb2 HC.out.lt); replace HB := Lib.hid (HB.out.trans (hb2.mono hTw)); replace HO := Lib.hid (HO.out.kept (grown_below (r := none) hb2) (by cases u6.ownBlock <;> simp)); replace d0 := Hcr.out _ HC.out; replace d2 := Hcb.out _ _ _ _ hb2 d2; replace d3 := Hcb.out _ _ _ _ hb2 d3; have hE0 := hE.cell; have hEf := hE.fr; clear hb1 hb2 hb3))
              | fail)
            · have hTw5 : T ≤ w5.heap.size := Nat.le_of_lt HC.out.lt
              replace HC := Lib.hid (HC.out.alloc (.cells #[.int .i64 j1, .int .i64 j2, .int .i64 j3] 43))
              replace HB := Lib.hid (HB.out.alloc hTw5 (.cells #[.int .i64 j1, .int .i64 j2, .int .i64 j3] 43))
              replace HO := Lib.hid (HO.out.alloc (.cells #[.int .i64 j1, .int .i64 j2, .int .i64 j3] 43))
              clear d0 d2 d3 hTw5
              generalize w5.alloc (.cells #[.int .i64 j1, .int .i64 j2, .int .i64 j3] 43) = w6 at *
              go_wp2_with (first
                | (at_builtin; refine wpList_append_own _ rfl _ _ 26 rfl (T + 1) 3 i0 (.int .i64 0) 1 8 Tryd.underlying26 hi hz0 hz1 hz2 rfl (by decide) _ _ _ rfl (HO.out.alloc _) ⟨w6.heap.size, 0, none⟩ 1 1 [.int .i64 cd] rfl rfl (cells_new w6 #[.int .i64 cd] _) (by simp [Value.oneCell']) (by unfold maxLen; omega) (by omega) (by simp only [World.size_alloc]; have := HC.out.lt; omega) ?_; intro v' w7 hown' hgrow _; have HO7 := Lib.hid hown'; have HG7 := Lib.hid hgrow; clear hown' hgrow)
                | fail)
              go_roundw
              case rel =>
                have hT6 : T ≤ w6.heap.size := Nat.le_of_lt HC.out.lt
                refine ⟨k + 1, by omega, by go_num, ?_, ?_, ?_, HK2.out⟩
                · show World.ownsRow _ _ _ _ _ _ _
                  rw [HE.out, List.length_append, List.map_append]; exact HO7.out
                · exact (HC.out.alloc _).grown HG7.out (fun e => by have := (HO.out.lt T e.symm).1; omega)
                · exact (HB.out.alloc hT6 _).grown HG7.out (by rw [World.size_alloc]; omega) (fun k e => by have := (HO.out.lt k e).1; omega)
              case measure => simp [intOf]; omega
            · have hT4 : T ≤ w4.heap.size := hTw
              have hg3 : ∀ o v W, World.grownBy W (W.setCell ⟨w4.heap.size, o, none⟩ v) (some w4.heap.size) := fun o v W => grownBy_at W _ o v
              have hno : u6.ownBlock = none ∨ u6.ownBlock ≠ some w4.heap.size := by
                cases e : u6.ownBlock with
                | none => left; rfl
                | some b => right; intro e'; have h1 := HLO.out b e; have e2 : b = w4.heap.size := Option.some.inj e'; omega
              replace HC := Lib.hid (((HC.out.other w4.heap.size 0 (.int .i64 j1) hne).other w4.heap.size 1 (.int .i64 j2) hne).other w4.heap.size 2 (.int .i64 j3) hne)
              replace HB := Lib.hid (((HB.out.setCell (p := ⟨w4.heap.size, 0, none⟩) hT4 (.int .i64 j1)).setCell (p := ⟨w4.heap.size, 1, none⟩) hT4 (.int .i64 j2)).setCell (p := ⟨w4.heap.size, 2, none⟩) hT4 (.int .i64 j3))
              replace HO := Lib.hid (((HO.out.kept (hg3 0 (.int .i64 j1) _) hno).kept (hg3 1 (.int .i64 j2) _) hno).kept (hg3 2 (.int .i64 j3) _) hno)
              clear d0 d2 d3 hE hE0 hEf
              generalize ((w5.setCell ⟨w4.heap.size, 0, none⟩ (.int .i64 j1)).setCell ⟨w4.heap.size, 1, none⟩ (.int .i64 j2)).setCell ⟨w4.heap.size, 2, none⟩ (.int .i64 j3) = w6 at *
              go_wp2_with (first
                | (at_builtin; refine wpList_append_own _ rfl _ _ 26 rfl (T + 1) 3 i0 (.int .i64 0) 1 8 Tryd.underlying26 hi hz0 hz1 hz2 rfl (by decide) _ _ _ rfl (HO.out.alloc _) ⟨w6.heap.size, 0, none⟩ 1 1 [.int .i64 cd] rfl rfl (cells_new w6 #[.int .i64 cd] _) (by simp [Value.oneCell']) (by unfold maxLen; omega) (by omega) (by simp only [World.size_alloc]; have := HC.out.lt; omega) ?_; intro v' w7 hown' hgrow _; have HO7 := Lib.hid hown'; have HG7 := Lib.hid hgrow; clear hown' hgrow)
                | fail)
              go_roundw
              case rel =>
                have hT6 : T ≤ w6.heap.size := Nat.le_of_lt HC.out.lt
                refine ⟨k + 1, by omega, by go_num, ?_, ?_, ?_, HK2.out⟩
                · show World.ownsRow _ _ _ _ _ _ _
                  rw [HE.out, List.length_append, List.map_append]; exact HO7.out
                · exact (HC.out.alloc _).grown HG7.out (fun e => by have := (HO.out.lt T e.symm).1; omega)
                · exact (HB.out.alloc hT6 _).grown HG7.out (by rw [World.size_alloc]; omega) (fun k e => by have := (HO.out.lt k e).1; omega)
              case measure => simp [intOf]; omega
          · have HE : Hid (codesL f c (es.take (k + 1)) = codesL f c (es.take k)) := codesL_miss f c es k hke (by rw [HX.out]; unfold isP; simpa using h1)
            have t1 : (x.k == 1) = false := by simpa using h1
            obtain ⟨t, kk, p, dd, cc, uu, vv⟩ := x
            try dsimp only at c0 c1 c2 c3 c4 c5 c6
            dsimp only at t1 hen
            clear h1 HX he hent
            go_wp2_with (first
              | (go_at_call 68; (refine (hen _).mono ?_; rintro e w4 ⟨rfl, hb1⟩; replace HC := Lib.hid (HC.out.below hb1 HC.out.lt); replace HB := Lib.hid (HB.out.trans (hb1.mono hTw)); replace HO := Lib.hid (HO.out.kept (grown_below (r := none) hb1) (by cases u6.ownBlock <;> simp)); replace c0 := hcb hb1 c0; replace c1 := hcb hb1 c1; replace c2 := hcb hb1 c2; replace c3 := hcb hb1 c3; replace c4 := hcb hb1 c4; replace c5 := hcb hb1 c5; replace c6 := hcb hb1 c6; clear hb1))
              | fail)
            go_roundw
            case rel =>
              refine ⟨k + 1, by omega, by go_num, ?_, HC.out, HB.out, HK2.out⟩
              show World.ownsRow _ _ _ _ _ _ _
              rw [HE.out]; exact HO.out
            case measure => simp [intOf]; omega
        · have HF : Hid (codesS f c es = ([], entErr x)) := by
            have := firstErr_bad es k hke HK.out (by rw [HX.out]; exact he)
            rw [HX.out] at this
            show _ = _
            unfold codesS; rw [if_neg (by have := HV.out; simpa using this), if_pos (by rw [this]; exact he), this]
          have hne : (entErr x != 0) = true := by simpa using he
          clear he hent
          generalize entErr x = E at *
          obtain ⟨t, kk, p, dd, cc, uu, vv⟩ := x
          try dsimp only at c0 c1 c2 c3 c4 c5 c6
          go_wp2_with (first
            | (go_at_call 68; (refine (hen _).mono ?_; rintro e w4 ⟨rfl, hb1⟩; replace HB := Lib.hid (HB.out.trans (hb1.mono hTw)); clear hb1))
            | fail)
          go_ret2
          rw [HF.out, hTT]
          exact ⟨_, rfl, ⟨none, 0, rfl, fun h0 => by simp at h0⟩, HB.out⟩
      · have a1 : ¬ (k : Int) < n := by omega
        obtain rfl : k = n := by omega
        have HF : Hid (codesS f c es = (codesL f c es, 0)) := by
          show _ = _
          have h0 : firstErr es = 0 := firstErr_ok es (fun j hj => HK.out j (by rw [← HN.out]; exact hj))
          unfold codesS; rw [if_neg (by have := HV.out; simpa using this), if_neg (by simpa using h0)]
        have h := HO.out
        rw [List.take_of_length_le (by rw [HN.out]; exact Nat.le_refl _)] at h
        have HO2 := Lib.hid h
        clear h hf hent
        go_wp2_with fail
        go_ret2
        rw [HF.out]
        exact ⟨_, rfl, ownI_sees HO2.out, HB.out⟩
  · have hcs : codesS f c es = ([], 2) := by unfold codesS; rw [if_pos hv]
    rw [hcs]
    have hd : decide (vErr f c = 0) = false := by simpa using hv
    rw [hd] at hva
    generalize es.length = n at *
    clear hv hd hcs hf
    go_enter Tryd.func39, Tryd.ntmps39
    go_wp2_with (first
      | (refine wpList_load_bl rfl 40 (.tmp 2) rfl _ rfl 40 _ _ HC.out Tryd.underlying40 rfl info40 ?_)
      | (go_at_call 65; refine (hva _).mono ?_; rintro e w1 ⟨rfl, hb1⟩; replace HB := Lib.hid (HB.out.trans (hb1.mono HB.out.size)); clear hb1)
      | fail)
    go_ret2
    exact ⟨_, rfl, ⟨none, 0, rfl, fun h0 => by simp at h0⟩, HB.out⟩

theorem ocodes_sees (f c : Int) (y : Nat → Value) {v : Value} {es : List Et} {w : World} (S : SeesE w v es) (hm : es.length ≤ 1000) :
    Calls Tryd.prog 39 #[.agg (cfgA f c y), v] w fun e w' => ∃ a, e = .returned (.tuple #[a, .int .i64 (codesS f c es).2]) ∧ SeesI w' a (codesS f c es).1 ∧ Below w.heap.size w w' := by
  obtain ⟨ao, cap, rfl, hc⟩ := S
  rcases Nat.eq_zero_or_pos es.length with h0 | h0
  · obtain rfl := List.eq_nil_of_length_eq_zero h0
    exact ocodes_cells f c y 0 0 cap [] (by simp) w (fun k j u _ hk => by simp at hk) ao (fun h => by simp at h)
  · obtain ⟨b, off, rfl, hx⟩ := hc h0
    exact ocodes_cells f c y b off cap es hm w hx _ (fun _ => rfl)
end Go.Proofs.YtaipifjmkbcjjaaDoor
