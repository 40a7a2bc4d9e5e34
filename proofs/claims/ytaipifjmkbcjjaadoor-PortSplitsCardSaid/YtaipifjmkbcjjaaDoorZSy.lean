/- Walks: Split, and that no list comes with an error. -/
import Derived.Test.YtaipifjmkbcjjaaDoorZOy
namespace Go.Proofs.YtaipifjmkbcjjaaDoor
open Go.RowKit Go.WideMaps Go.Maps Go.Sort

set_option maxRecDepth 100000 in
set_option maxHeartbeats 4000000 in
theorem split2_cells (b off cap : Nat) (es : List Et) (hm : es.length ≤ 1000) (w : World)
    (hf : ∀ k j u, (es.getD k et0).cs[j]? = some u → k < es.length → w.cell? ⟨b, off + k * 7 + j, none⟩ = some u) (ao : Option Addr) (hao : 0 < es.length → ao = some ⟨b, off, none⟩) :
    Calls Tryd.prog 35 #[.slice ao es.length cap] w fun e w' => ∃ a, e = .returned (.tuple #[a, .int .i64 (firstErr es)]) ∧ SplitQ w w' a es ∧ Below w.heap.size w w' := by
  have hmm := @run_makeMap Tryd.prog
  obtain ⟨i0, hi, hz0, hz1, hz2⟩ := info_parts Tr.info57
  obtain ⟨n, hn⟩ : ∃ n, es.length = n := ⟨_, rfl⟩
  have HN := Lib.hid hn
  rw [hn] at hm hao ⊢
  clear hn
  have HB0 := Lib.hid (Below.refl w.heap.size w)
  go_enter Tryd.func35, Tryd.ntmps35
  go_wp2
  go_loopw [12] (fun i wr => ∃ (k : Nat) (rows : List Rw), k ≤ n ∧ i = .int .i64 k ∧ Hid (GM wr (w.heap.size + 1) 57 7 w.heap.size rows) ∧ Hid (∀ d, (rowAt rows d).n = (domL d (es.take k)).length ∧ (rowAt rows d).xs = flatE (domL d (es.take k))) ∧
      Hid (∀ j, j < k → entErr (es.getD j et0) = 0) ∧ Hid (Below w.heap.size w wr) ∧ Hid (w.heap.size + 1 ≤ wr.heap.size))
    (fun i _ => n - (intOf i).toNat)
  case atStart => exact ⟨0, [], Nat.zero_le _, rfl, GM.made _ _ _, fun d => ⟨rfl, rfl⟩, fun j hj => by omega, (Below.refl _ _).alloc (Nat.le_refl _) _, by show _ ≤ _; simp⟩
  case round =>
    obtain ⟨k, rows, hk, rfl, HG, HR, HK, HB, HS⟩ := hrel
    clear HB0
    by_cases hlt : k < n
    · obtain rfl := hao (by omega)
      have hke : k < es.length := by rw [HN.out]; exact hlt
      have a1 : (k : Int) < n := by omega
      have a2 : (0 : Int) ≤ k := by omega
      obtain ⟨x, hx⟩ : ∃ x, es.getD k et0 = x := ⟨_, rfl⟩
      have c0 := hf k 0 (.int .i64 x.t) (by rw [hx]; rfl) hke
      have c1 := hf k 1 (.int .i64 x.k) (by rw [hx]; rfl) hke
      have c2 := hf k 2 (.int .i64 x.p) (by rw [hx]; rfl) hke
      have c3 := hf k 3 (.string x.d) (by rw [hx]; rfl) hke
      have c4 := hf k 4 (.int .i64 x.c) (by rw [hx]; rfl) hke
      have c5 := hf k 5 (.int .i64 x.u) (by rw [hx]; rfl) hke
      have c6 := hf k 6 (.int .i64 x.v) (by rw [hx]; rfl) hke
      have hbb : b < w.heap.size := World.block_lt_of_cell? w ⟨b, off + k * 7 + 0, none⟩ c0
      have q0 : ∀ a, wr.cell? ⟨b, a, none⟩ = w.cell? ⟨b, a, none⟩ := fun a => HB.out.cell (p := ⟨b, a, none⟩) hbb
      simp only [← q0, Nat.add_zero] at c0 c1 c2 c3 c4 c5 c6
      clear q0 hf
      have HX := Lib.hid hx
      have HBa := Lib.hid (HB.out.alloc HB.out.size (.cells x.cs 57))
      clear hx
      by_cases h2 : x.k = 2
      · have HE : Hid (∀ d, domL d (es.take (k + 1)) = domL d (es.take k)) := fun d => domL_miss d es k hke (by rw [HX.out]; unfold isD; simp [h2])
        have HC : Hid (∀ j, j < k + 1 → entErr (es.getD j et0) = 0) := fun j hj => by
          by_cases e : j = k
          · subst e; rw [HX.out]; unfold entErr; rw [if_pos h2]
          · exact HK.out j (by omega)
        obtain ⟨t, kk, p, dd, cc, uu, vv⟩ := x
        try dsimp only at c0 c1 c2 c3 c4 c5 c6
        dsimp only at h2
        subst h2
        go_wp2
        go_roundw
        case rel =>
          refine ⟨k + 1, rows, by omega, by go_num, ?_, fun d => by rw [HE.out d]; exact HR.out d, HC.out, HBa.out, ?_⟩
          · exact HG.out.alloc _
          · show _ ≤ _; rw [World.size_alloc]; have := HS.out; omega
        case measure => simp [intOf]; omega
      · by_cases h1 : x.k = 1
        · by_cases hp : 0 ≤ x.p ∧ x.p < 24
          · have HC : Hid (∀ j, j < k + 1 → entErr (es.getD j et0) = 0) := fun j hj => by
              by_cases e : j = k
              · subst e; rw [HX.out]; unfold entErr; rw [if_neg h2, if_pos h1, if_pos hp]
              · exact HK.out j (by omega)
            have HE : Hid (∀ d, domL d (es.take (k + 1)) = if d = 1 + x.p / 8 then domL d (es.take k) ++ [x] else domL d (es.take k)) := fun d => by
              by_cases e : d = 1 + x.p / 8
              · rw [if_pos e, domL_hit d es k hke (by rw [HX.out]; unfold isD; simp [h1, e]), HX.out]
              · rw [if_neg e, domL_miss d es k hke (by rw [HX.out]; unfold isD; simp [h1]; exact fun h => e h.symm)]
            have hdo : ∀ W, Calls Tryd.prog 19 #[.int .i64 x.p] W fun e w' => e = .returned (.tuple #[.int .i64 (1 + x.p / 8), .int .i64 0]) ∧ W = w' := fun W => domain_ok x.p W hp.1 hp.2
            have hrow := HG.out.ownAt (1 + x.p / 8)
            have hln : (rowAt rows (1 + x.p / 8)).n ≤ 1000 := by
              rw [(HR.out (1 + x.p / 8)).1]
              have := domL_len (1 + x.p / 8) (es.take k)
              rw [List.length_take] at this; omega
            have HRd := Lib.hid (HR.out (1 + x.p / 8))
            obtain ⟨t, kk, p, dd, cc, uu, vv⟩ := x
            try dsimp only at c0 c1 c2 c3 c4 c5 c6
            dsimp only at h1 hp hdo hrow hln
            subst h1
            have hg := HG.out
            have hws := HS.out
            clear h2 hp
            go_wp2_with (first
              | (go_at_call 19; (refine (hdo _).mono ?_; rintro e w1 ⟨rfl, rfl⟩))
              | (at_lookup; refine wpList_lookup_gm rfl _ _ 99 3 55 false rfl (by kernel_rfl) (by kernel_rfl) (zero55 _) (hg.alloc _) rfl _ rfl ?_; simp only [Bool.false_eq_true, if_false])
              | (at_builtin; (refine wpList_append_own_at _ rfl _ _ 55 rfl (w.heap.size + 1) 57 i0 et0.val 7 64 (by kernel_rfl) hi hz0 hz1 hz2 rfl (by decide) _ _ _ rfl ((hrow.alloc _).alloc _) ⟨wr.heap.size + 1, 0, none⟩ 1 1 (Et.cs ⟨t, 1, p, dd, cc, uu, vv⟩).toList rfl rfl (cells_newA _ _ _ _) (by simp [Value.oneCell']) (by unfold maxLen; omega) (by omega) (by simp only [World.size_alloc]; omega) ?_; intro v' w1 hown' hgrow hnil hloc))
              | (at_mapUpdate; (refine wpList_update_gm rfl _ _ _ 99 3 55 rfl (by kernel_rfl) (by kernel_rfl) hg rfl ⟨1 + p / 8, v', _, _⟩ rfl rfl hws (((World.grownBy_alloc _ _ _).trans (World.grownBy_alloc _ _ _)).trans hgrow) hown' (hloc.imp id (fun h => ⟨_, h, by simp only [World.size_alloc]; omega⟩)) ?_; intro w2 hg2 hgrow2))
              | fail)
            have hall := ((World.grownBy_alloc wr (.cells (Et.cs ⟨t, 1, p, dd, cc, uu, vv⟩) 57) (rowAt rows (1 + p / 8)).v.ownBlock).trans (World.grownBy_alloc _ (.cells (Et.cs ⟨t, 1, p, dd, cc, uu, vv⟩) 57) _)).trans hgrow
            have hb1 := below_grownO HB.out hall (fun c h => by have := (hrow.lt c h).1; omega) (by omega)
            go_roundw
            case rel =>
              refine ⟨k + 1, _, by omega, by go_num, hg2, fun d => ?_, HC.out, below_grown hb1 hgrow2 (Nat.le_refl _) (Nat.le_trans (by omega) hall.size), Nat.le_trans hws (Nat.le_trans hall.size hgrow2.size)⟩
              rw [rowAt_put, HE.out d]
              by_cases e : d = 1 + p / 8
              · rw [if_pos e, if_pos e]
                have h1 := HRd.out
                subst e
                refine ⟨?_, ?_⟩
                · show _ + 1 = _; rw [List.length_append, h1.1]; rfl
                · show _ ++ _ = _; rw [flatE_snoc, h1.2]
              · rw [if_neg e, if_neg e]; exact HR.out d
            case measure => simp [intOf]; omega
          · have hE : entErr x = 2 := by unfold entErr; rw [if_neg h2, if_pos h1, if_neg hp]
            have HF : Hid (firstErr es = 2) := by
              have := firstErr_bad es k hke HK.out (by rw [HX.out, hE]; decide)
              rw [HX.out, hE] at this; exact this
            have hdo : ∀ W, Calls Tryd.prog 19 #[.int .i64 x.p] W fun e w' => e = .returned (.tuple #[.int .i64 0, .int .i64 2]) ∧ W = w' := fun W => domain_bad x.p W hp
            obtain ⟨t, kk, p, dd, cc, uu, vv⟩ := x
            try dsimp only at c0 c1 c2 c3 c4 c5 c6
            dsimp only at h1 hdo
            subst h1
            clear h2 hp hE
            go_wp2_with (first
              | (go_at_call 19; (refine (hdo _).mono ?_; rintro e w1 ⟨rfl, rfl⟩))
              | fail)
            go_ret2
            rw [HF.out]
            exact ⟨_, rfl, ⟨fun h => absurd (HF.out.symm.trans h) (by decide), fun _ => rfl⟩, HBa.out⟩
        · have hE : entErr x = 11 := by unfold entErr; rw [if_neg h2, if_neg h1]
          have HF : Hid (firstErr es = 11) := by
            have := firstErr_bad es k hke HK.out (by rw [HX.out, hE]; decide)
            rw [HX.out, hE] at this; exact this
          have t1 : (x.k == 2) = false := by simpa using h2
          have t2 : (x.k == 1) = false := by simpa using h1
          obtain ⟨t, kk, p, dd, cc, uu, vv⟩ := x
          try dsimp only at c0 c1 c2 c3 c4 c5 c6
          dsimp only at t1 t2
          clear h2 h1 hE
          go_wp2_with fail
          go_ret2
          rw [HF.out]
          exact ⟨_, rfl, ⟨fun h => absurd (HF.out.symm.trans h) (by decide), fun _ => rfl⟩, HBa.out⟩
    · have a1 : ¬ (k : Int) < n := by omega
      obtain rfl : k = n := by omega
      have HF : Hid (firstErr es = 0) := firstErr_ok es (fun j hj => HK.out j (by rw [← HN.out]; exact hj))
      have hT : es.take k = es := List.take_of_length_le (by rw [HN.out]; exact Nat.le_refl _)
      have HRR := HR.out
      rw [hT] at HRR
      have HR2 := Lib.hid HRR
      have hg := HG.out
      have hsl : ∀ d, ∃ a n c, (rowAt rows d).v = .slice a n c := fun d => by
        rcases (hg.ownAt d).2 with ⟨h, -⟩ | ⟨g, cap, cur, h, -⟩
        · exact ⟨_, _, _, h⟩
        · exact ⟨_, _, _, h⟩
      obtain ⟨x1, y1, z1, hv1⟩ := hsl 1
      obtain ⟨x2, y2, z2, hv2⟩ := hsl 2
      obtain ⟨x3, y3, z3, hv3⟩ := hsl 3
      clear HRR HR hf hT hsl
      go_wp2_with (first
        | (at_lookup; refine wpList_lookup_gm rfl _ _ 99 3 55 false rfl (by kernel_rfl) (by kernel_rfl) (zero55 _) hg rfl _ rfl ?_; simp only [Bool.false_eq_true, if_false])
        | fail)
      go_ret2
      rw [HF.out]
      have see : ∀ (o : Obj) d, SeesE (wr.alloc o) (rowAt rows d).v (domL d es) := fun o d => by
        have h := hg.ownAt d
        rw [(HR2.out d).1, (HR2.out d).2] at h
        exact ownE_sees (h.alloc _)
      have hB := Bl.new wr #[.slice x1 y1 z1, .slice x2 y2 z2, .slice x3 y3 z3] 55
      refine ⟨_, rfl, ⟨fun _ => ⟨wr.heap.size, _, _, _, rfl, HB.out.size, (hB.cell 0).trans rfl, (hB.cell 1).trans rfl, (hB.cell 2).trans rfl, ?_, ?_, ?_⟩, fun h => absurd HF.out h⟩, HB.out.alloc HB.out.size _⟩
      · have h := see (.cells #[.slice x1 y1 z1, .slice x2 y2 z2, .slice x3 y3 z3] 55) 1
        rw [hv1] at h; exact h
      · have h := see (.cells #[.slice x1 y1 z1, .slice x2 y2 z2, .slice x3 y3 z3] 55) 2
        rw [hv2] at h; exact h
      · have h := see (.cells #[.slice x1 y1 z1, .slice x2 y2 z2, .slice x3 y3 z3] 55) 3
        rw [hv3] at h; exact h

theorem split2_sees {v : Value} {es : List Et} {w : World} (S : SeesE w v es) (hm : es.length ≤ 1000) :
    Calls Tryd.prog 35 #[v] w fun e w' => ∃ a, e = .returned (.tuple #[a, .int .i64 (firstErr es)]) ∧ SplitQ w w' a es ∧ Below w.heap.size w w' := by
  obtain ⟨ao, cap, rfl, hc⟩ := S
  rcases Nat.eq_zero_or_pos es.length with h0 | h0
  · obtain rfl := List.eq_nil_of_length_eq_zero h0
    exact split2_cells 0 0 cap [] (by simp) w (fun k j u _ hk => by simp at hk) ao (fun h => by simp at h)
  · obtain ⟨b, off, rfl, hx⟩ := hc h0
    exact split2_cells b off cap es hm w hx _ (fun _ => rfl)
end Go.Proofs.YtaipifjmkbcjjaaDoor
