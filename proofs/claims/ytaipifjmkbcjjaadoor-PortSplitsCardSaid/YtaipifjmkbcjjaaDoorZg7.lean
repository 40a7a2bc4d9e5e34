/- Walks: Split. -/
import Derived.Test.YtaipifjmkbcjjaaDoorZEt
import Derived.Test.YtaipifjmkbcjjaaDoorZg6
namespace Go.Proofs.YtaipifjmkbcjjaaDoor
open Go.RowKit Go.WideMaps Go.Maps Go.Sort

/-- What 'Split' hands back: three lists, where there is no error. -/
def SplitR (w : World) (w' : World) (a : Value) (es : List Et) : Prop :=
  firstErr es = 0 → ∃ g v1 v2 v3, a = .slice (some ⟨g, 0, none⟩) 3 3 ∧ w.heap.size ≤ g ∧ w'.cell? ⟨g, 0, none⟩ = some v1 ∧ w'.cell? ⟨g, 1, none⟩ = some v2 ∧ w'.cell? ⟨g, 2, none⟩ = some v3 ∧
    SeesE w' v1 (domL 1 es) ∧ SeesE w' v2 (domL 2 es) ∧ SeesE w' v3 (domL 3 es)

set_option maxRecDepth 100000 in
set_option maxHeartbeats 4000000 in
theorem split_cells (b off cap : Nat) (es : List Et) (hm : es.length ≤ 1000) (w : World)
    (hf : ∀ k j u, (es.getD k et0).cs[j]? = some u → k < es.length → w.cell? ⟨b, off + k * 7 + j, none⟩ = some u) (ao : Option Addr) (hao : 0 < es.length → ao = some ⟨b, off, none⟩) :
    Calls Tryd.prog 35 #[.slice ao es.length cap] w fun e w' => ∃ a, e = .returned (.tuple #[a, .int .i64 (firstErr es)]) ∧ SplitR w w' a es ∧ Below w.heap.size w w' := by
  have hmm := @run_makeMap Tryd.prog
  obtain ⟨i0, hi, hz0, hz1, hz2⟩ := info_parts Tr.info57
  obtain ⟨n, hn⟩ : ∃ n, es.length = n := ⟨_, rfl⟩
  have HN := Lib.hid hn
  rw [hn] at hm hao ⊢
  clear hn
  have HB0 := Lib.hid (Below.refl w.heap.size w)
  go_enter Tryd.func35, Tryd.ntmps35
  go_wp2
  go_loopw [12] (fun i wr => ∃ (k : Nat) (rows : List Rw), k ≤ n ∧ i = .int .i64 k ∧ Hid (GM wr (w.heap.size + 1) 57 7 w.heap.size rows) ∧ Hid (∀ d, (rowAt rows d).n = (domL d (es.take k)).length ∧ (rowAt rows d).xs = flatE (domL d (es.take k))) ∧
      Hid (∀ j, j < k → entErr (es.getD j et0) = 0) ∧ Hid (Below w.heap.size w wr) ∧ Hid (w.heap.size + 1 ≤ wr.heap.size))
    (fun i _ => n - (intOf i).toNat)
  case atStart => exact ⟨0, [], Nat.zero_le _, rfl, GM.made _ _ _, fun d => ⟨rfl, rfl⟩, fun j hj => by omega, (Below.refl _ _).alloc (Nat.le_refl _) _, by show _ ≤ _; simp⟩
  case round =>
    obtain ⟨k, rows, hk, rfl, HG, HR, HK, HB, HS⟩ := hrel
    clear HB0
    by_cases hlt : k < n
    · obtain rfl := hao (by omega)
      have hke : k < es.length := by rw [HN.out]; exact hlt
      have a1 : (k : Int) < n := by omega
      have a2 : (0 : Int) ≤ k := by omega
      obtain ⟨x, hx⟩ : ∃ x, es.getD k et0 = x := ⟨_, rfl⟩
      have c0 := hf k 0 (.int .i64 x.t) (by rw [hx]; rfl) hke
      have c1 := hf k 1 (.int .i64 x.k) (by rw [hx]; rfl) hke
      have c2 := hf k 2 (.int .i64 x.p) (by rw [hx]; rfl) hke
      have c3 := hf k 3 (.string x.d) (by rw [hx]; rfl) hke
      have c4 := hf k 4 (.int .i64 x.c) (by rw [hx]; rfl) hke
      have c5 := hf k 5 (.int .i64 x.u) (by rw [hx]; rfl) hke
      have c6 := hf k 6 (.int .i64 x.v) (by rw [hx]; rfl) hke
      have hbb : b < w.heap.size := World.block_lt_of_cell? w ⟨b, off + k * 7 + 0, none⟩ c0
      have q0 : ∀ a, wr.cell? ⟨b, a, none⟩ = w.cell? ⟨b, a, none⟩ := fun a => HB.out.cell (p := ⟨b, a, none⟩) hbb
      simp only [← q0, Nat.add_zero] at c0 c1 c2 c3 c4 c5 c6
      clear q0 hf
      have HX := Lib.hid hx
      have HBa := Lib.hid (HB.out.alloc HB.out.size (.cells x.cs 57))
      clear hx
      by_cases h2 : x.k = 2
      · have HE : Hid (∀ d, domL d (es.take (k + 1)) = domL d (es.take k)) := fun d => domL_miss d es k hke (by rw [HX.out]; unfold isD; simp [h2])
        have HC : Hid (∀ j, j < k + 1 → entErr (es.getD j et0) = 0) := fun j hj => by
          by_cases e : j = k
          · subst e; rw [HX.out]; unfold entErr; rw [if_pos h2]
          · exact HK.out j (by omega)
        obtain ⟨t, kk, p, dd, cc, uu, vv⟩ := x
        try dsimp only at c0 c1 c2 c3 c4 c5 c6
        dsimp only at h2
        subst h2
        go_wp2
        go_roundw
        case rel =>
          refine ⟨k + 1, rows, by omega, by go_num, ?_, fun d => by rw [HE.out d]; exact HR.out d, HC.out, HBa.out, ?_⟩
          · exact HG.out.alloc _
          · show _ ≤ _; rw [World.size_alloc]; have := HS.out; omega
        case measure => simp [intOf]; omega
      · by_cases h1 : x.k = 1
        · by_cases hp : 0 ≤ x.p ∧ x.p < 24
          · have HC : Hid (∀ j, j < k + 1 → entErr (es.getD j et0) = 0) := fun j hj => by
              by_cases e : j = k
              · subst e; rw [HX.out]; unfold entErr; rw [if_neg h2, if_pos h1, if_pos hp]
              · exact HK.out j (by omega)
            have HE : Hid (∀ d, domL d (es.take (k + 1)) = if d = 1 + x.p / 8 then domL d (es.take k) ++ [x] else domL d (es.take k)) := fun d => by
              by_cases e : d = 1 + x.p / 8
              · rw [if_pos e, domL_hit d es k hke (by rw [HX.out]; unfold isD; simp [h1, e]), HX.out]
              · rw [if_neg e, domL_miss d es k hke (by rw [HX.out]; unfold isD; simp [h1]; exact fun h => e h.symm)]
            have hdo : ∀ W, Calls Tryd.prog 19 #[.int .i64 x.p] W fun e w' => e = .returned (.tuple #[.int .i64 (1 + x.p / 8), .int .i64 0]) ∧ W = w' := fun W => domain_ok x.p W hp.1 hp.2
            have hrow := HG.out.ownAt (1 + x.p / 8)
            have hln : (rowAt rows (1 + x.p / 8)).n ≤ 1000 := by
              rw [(HR.out (1 + x.p / 8)).1]
              have := domL_len (1 + x.p / 8) (es.take k)
              rw [List.length_take] at this; omega
            have HRd := Lib.hid (HR.out (1 + x.p / 8))
            obtain ⟨t, kk, p, dd, cc, uu, vv⟩ := x
            try dsimp only at c0 c1 c2 c3 c4 c5 c6
            dsimp only at h1 hp hdo hrow hln
            subst h1
            have hg := HG.out
            have hws := HS.out
            clear h2 hp
            go_wp2_with (first
              | (go_at_call 19; (refine (hdo _).mono ?_; rintro e w1 ⟨rfl, rfl⟩))
              | (at_lookup; refine wpList_lookup_gm rfl _ _ 99 3 55 false rfl (by kernel_rfl) (by kernel_rfl) (zero55 _) (hg.alloc _) rfl _ rfl ?_; simp only [Bool.false_eq_true, if_false])
              | (at_builtin; (refine wpList_append_own_at _ rfl _ _ 55 rfl (w.heap.size + 1) 57 i0 et0.val 7 64 (by kernel_rfl) hi hz0 hz1 hz2 rfl (by decide) _ _ _ rfl ((hrow.alloc _).alloc _) ⟨wr.heap.size + 1, 0, none⟩ 1 1 (Et.cs ⟨t, 1, p, dd, cc, uu, vv⟩).toList rfl rfl (cells_newA _ _ _ _) (by simp [Value.oneCell']) (by unfold maxLen; omega) (by omega) (by simp only [World.size_alloc]; omega) ?_; intro v' w1 hown' hgrow hnil hloc))
              | (at_mapUpdate; (refine wpList_update_gm rfl _ _ _ 99 3 55 rfl (by kernel_rfl) (by kernel_rfl) hg rfl ⟨1 + p / 8, v', _, _⟩ rfl rfl hws (((World.grownBy_alloc _ _ _).trans (World.grownBy_alloc _ _ _)).trans hgrow) hown' (hloc.imp id (fun h => ⟨_, h, by simp only [World.size_alloc]; omega⟩)) ?_; intro w2 hg2 hgrow2))
              | fail)
            have hall := ((World.grownBy_alloc wr (.cells (Et.cs ⟨t, 1, p, dd, cc, uu, vv⟩) 57) (rowAt rows (1 + p / 8)).v.ownBlock).trans (World.grownBy_alloc _ (.cells (Et.cs ⟨t, 1, p, dd, cc, uu, vv⟩) 57) _)).trans hgrow
            have hb1 := below_grownO HB.out hall (fun c h => by have := (hrow.lt c h).1; omega) (by omega)
            go_roundw
            case rel =>
              refine ⟨k + 1, _, by omega, by go_num, hg2, fun d => ?_, HC.out, below_grown hb1 hgrow2 (Nat.le_refl _) (Nat.le_trans (by omega) hall.size), Nat.le_trans hws (Nat.le_trans hall.size hgrow2.size)⟩
              rw [rowAt_put, HE.out d]
              by_cases e : d = 1 + p / 8
              · rw [if_pos e, if_pos e]
                have h1 := HRd.out
                subst e
                refine ⟨?_, ?_⟩
                · show _ + 1 = _; rw [List.length_append, h1.1]; rfl
                · show _ ++ _ = _; rw [flatE_snoc, h1.2]
              · rw [if_neg e, if_neg e]; exact HR.out d
            case measure => simp [intOf]; omega
          · have hE : entErr x = 2 := by unfold entErr; rw [if_neg h2, if_pos h1, if_neg hp]
            have HF : Hid (firstErr es = 2) := by
              have := firstErr_bad es k hke HK.out (by rw [HX.out, hE]; decide)
              rw [HX.out, hE] at this; exact this
            have hdo : ∀ W, Calls Tryd.prog 19 #[.int .i64 x.p] W fun e w' => e = .returned (.tuple #[.int .i64 0, .int .i64 2]) ∧ W = w' := fun W => domain_bad x.p W hp
            obtain ⟨t, kk, p, dd, cc, uu, vv⟩ := x
            try dsimp only at c0 c1 c2 c3 c4 c5 c6
            dsimp only at h1 hdo
            subst h1
            clear h2 hp hE
            go_wp2_with (first
              | (go_at_call 19; (refine (hdo _).mono ?_; rintro e w1 ⟨rfl, rfl⟩))
              | fail)
            go_ret2
            rw [HF.out]
            exact ⟨_, rfl, fun h => absurd (HF.out.symm.trans h) (by decide), HBa.out⟩
        · have hE : entErr x = 11 := by unfold entErr; rw [if_neg h2, if_neg h1]
          have HF : Hid (firstErr es = 11) := by
            have := firstErr_bad es k hke HK.out (by rw [HX.out, hE]; decide)
            rw [HX.out, hE] at this; exact this
          have t1 : (x.k == 2) = false := by simpa using h2
          have t2 : (x.k == 1) = false := by simpa using h1
          obtain ⟨t, kk, p, dd, cc, uu, vv⟩ := x
          try dsimp only at c0 c1 c2 c3 c4 c5 c6
          dsimp only at t1 t2
          clear h2 h1 hE
          go_wp2_with fail
          go_ret2
          rw [HF.out]
          exact ⟨_, rfl, fun h => absurd (HF.out.symm.trans h) (by decide), HBa.out⟩
    · have a1 : ¬ (k : Int) < n := by omega
      obtain rfl : k = n := by omega
      have HF : Hid (firstErr es = 0) := firstErr_ok es (fun j hj => HK.out j (by rw [← HN.out]; exact hj))
      have hT : es.take k = es := List.take_of_length_le (by rw [HN.out]; exact Nat.le_refl _)
      have HRR := HR.out
      rw [hT] at HRR
      have HR2 := Lib.hid HRR
      have hg := HG.out
      have hsl : ∀ d, ∃ a n c, (rowAt rows d).v = .slice a n c := fun d => by
        rcases (hg.ownAt d).2 with ⟨h, -⟩ | ⟨g, cap, cur, h, -⟩
        · exact ⟨_, _, _, h⟩
        · exact ⟨_, _, _, h⟩
      obtain ⟨x1, y1, z1, hv1⟩ := hsl 1
      obtain ⟨x2, y2, z2, hv2⟩ := hsl 2
      obtain ⟨x3, y3, z3, hv3⟩ := hsl 3
      clear HRR HR hf hT hsl
      go_wp2_with (first
        | (at_lookup; refine wpList_lookup_gm rfl _ _ 99 3 55 false rfl (by kernel_rfl) (by kernel_rfl) (zero55 _) hg rfl _ rfl ?_; simp only [Bool.false_eq_true, if_false])
        | fail)
      go_ret2
      rw [HF.out]
      have see : ∀ (o : Obj) d, SeesE (wr.alloc o) (rowAt rows d).v (domL d es) := fun o d => by
        have h := hg.ownAt d
        rw [(HR2.out d).1, (HR2.out d).2] at h
        exact ownE_sees (h.alloc _)
      have hB := Bl.new wr #[.slice x1 y1 z1, .slice x2 y2 z2, .slice x3 y3 z3] 55
      refine ⟨_, rfl, fun _ => ⟨wr.heap.size, _, _, _, rfl, HB.out.size, (hB.cell 0).trans rfl, (hB.cell 1).trans rfl, (hB.cell 2).trans rfl, ?_, ?_, ?_⟩, HB.out.alloc HB.out.size _⟩
      · have h := see (.cells #[.slice x1 y1 z1, .slice x2 y2 z2, .slice x3 y3 z3] 55) 1
        rw [hv1] at h; exact h
      · have h := see (.cells #[.slice x1 y1 z1, .slice x2 y2 z2, .slice x3 y3 z3] 55) 2
        rw [hv2] at h; exact h
      · have h := see (.cells #[.slice x1 y1 z1, .slice x2 y2 z2, .slice x3 y3 z3] 55) 3
        rw [hv3] at h; exact h

theorem split_sees {v : Value} {es : List Et} {w : World} (S : SeesE w v es) (hm : es.length ≤ 1000) :
    Calls Tryd.prog 35 #[v] w fun e w' => ∃ a, e = .returned (.tuple #[a, .int .i64 (firstErr es)]) ∧ SplitR w w' a es ∧ Below w.heap.size w w' := by
  obtain ⟨ao, cap, rfl, hc⟩ := S
  rcases Nat.eq_zero_or_pos es.length with h0 | h0
  · obtain rfl := List.eq_nil_of_length_eq_zero h0
    exact split_cells 0 0 cap [] (by simp) w (fun k j u _ hk => by simp at hk) ao (fun h => by simp at h)
  · obtain ⟨b, off, rfl, hx⟩ := hc h0
    exact split_cells b off cap es hm w hx _ (fun _ => rfl)
end Go.Proofs.YtaipifjmkbcjjaaDoor

/- Walks: Codes. -/
namespace Go.Proofs.YtaipifjmkbcjjaaDoor
open Go.RowKit Go.Sort

/-- The code of an entry at a port, and those of a list. -/
def codeE (f c : Int) (e : Et) : Int := (jdgE f c e.p e.d.data.toList).1.code
def isP (e : Et) : Bool := decide (e.k = 1)
def codesL (f c : Int) (es : List Et) : List Int := (es.filter isP).map (codeE f c)
def codesS (f c : Int) (es : List Et) : List Int × Int := if vErr f c ≠ 0 then ([], 2) else if firstErr es ≠ 0 then ([], firstErr es) else (codesL f c es, 0)
theorem codesL_hit (f c : Int) (es : List Et) (k : Nat) (h : k < es.length) (hd : isP (es.getD k et0) = true) : codesL f c (es.take (k + 1)) = codesL f c (es.take k) ++ [codeE f c (es.getD k et0)] := by
  rw [take_snocE es k h]; unfold codesL; rw [List.filter_append, List.filter_cons_of_pos hd]; simp
theorem codesL_miss (f c : Int) (es : List Et) (k : Nat) (h : k < es.length) (hd : isP (es.getD k et0) = false) : codesL f c (es.take (k + 1)) = codesL f c (es.take k) := by
  rw [take_snocE es k h]; unfold codesL; rw [List.filter_append, List.filter_cons_of_neg (by rw [hd]; decide)]; simp
theorem codesL_len (f c : Int) (es : List Et) : (codesL f c es).length ≤ es.length := by unfold codesL; rw [List.length_map]; exact List.length_filter_le _ _

set_option maxRecDepth 100000 in
set_option maxHeartbeats 4000000 in
theorem codes_cells (f c : Int) (y : Nat → Value) (b off cap : Nat) (es : List Et) (hm : es.length ≤ 1000) (hd : ∀ e ∈ es, e.d.size ≤ maxLen) (w : World) (hg : Glob w)
    (hf : ∀ k j u, (es.getD k et0).cs[j]? = some u → k < es.length → w.cell? ⟨b, off + k * 7 + j, none⟩ = some u) (ao : Option Addr) (hao : 0 < es.length → ao = some ⟨b, off, none⟩)
    (S : SeesE w (.slice ao es.length cap) es) :
    Calls Tryd.prog 38 #[.agg (cfgA f c y), .slice ao es.length cap] w fun e w' => ∃ a, e = .returned (.tuple #[a, .int .i64 (codesS f c es).2]) ∧ SeesI w' a (codesS f c es).1 ∧ Below w.heap.size w w' := by
  obtain ⟨i0, hi, hz0, hz1, hz2⟩ := info_parts Tr.info3
  have HC := Lib.hid (Bl.new w (cfgA f c y) 40)
  have HB := Lib.hid (below_alloc w (.cells (cfgA f c y) 40))
  have hva := fun W => valid_any f c y W
  by_cases hv : vErr f c = 0
  · have hsp : ∀ W, Below w.heap.size w W → Calls Tryd.prog 35 #[.slice ao es.length cap] W _ := fun W hb => split_sees (S.block hb) hm
    rw [hv] at hva
    by_cases he : firstErr es = 0
    · have hcs : codesS f c es = (codesL f c es, 0) := by unfold codesS; rw [if_neg (by simpa using hv), if_neg (by simpa using he)]
      rw [hcs]
      simp only [he] at hsp
      obtain ⟨n, hn⟩ : ∃ n, es.length = n := ⟨_, rfl⟩
      have HN := Lib.hid hn
      rw [hn] at hm hao hsp ⊢
      clear hn hv he hcs S
      go_enter Tryd.func38, Tryd.ntmps38
      go_wp2_with (first
        | (refine wpList_load_bl rfl 40 (.tmp 2) rfl _ rfl 40 _ _ HC.out Tryd.underlying40 rfl info40 ?_)
        | (go_at_call 62; refine (hva _).mono ?_; rintro e w1 ⟨rfl, hb1⟩; replace HB := Lib.hid (HB.out.trans (hb1.mono HB.out.size)); replace HC := Lib.hid (HC.out.below hb1 HC.out.lt); clear hb1)
        | (go_at_call 35; refine (hsp _ HB.out).mono ?_; rintro e w2 ⟨a, rfl, -, hb1⟩; replace HB := Lib.hid (HB.out.trans (hb1.mono HB.out.size)); replace HC := Lib.hid (HC.out.below hb1 HC.out.lt); clear hb1)
        | fail)
      clear hsp hva
      go_loopw [9, 30] (fun v i wr => ∃ k : Nat, k ≤ n ∧ i = .int .i64 k ∧ Hid (wr.ownsRow (w.heap.size + 1) 3 1 v (codesL f c (es.take k)).length ((codesL f c (es.take k)).map (fun i => Value.int .i64 i))) ∧
          Hid (Bl w.heap.size (cfgA f c y) 40 wr) ∧ Hid (Below w.heap.size w wr))
        (fun _ i _ => n - (intOf i).toNat)
      case atStart => exact ⟨0, Nat.zero_le _, rfl, World.ownsRow_nil _ _ _ _, HC.out, HB.out⟩
      case round =>
        obtain ⟨k, hk, rfl, HO, HC, HB⟩ := hrel
        by_cases hlt : k < n
        · obtain rfl := hao (by omega)
          have hke : k < es.length := by rw [HN.out]; exact hlt
          have a1 : (k : Int) < n := by omega
          have a2 : (0 : Int) ≤ k := by omega
          obtain ⟨x, hx⟩ : ∃ x, es.getD k et0 = x := ⟨_, rfl⟩
          have c0 := hf k 0 (.int .i64 x.t) (by rw [hx]; rfl) hke
          have c1 := hf k 1 (.int .i64 x.k) (by rw [hx]; rfl) hke
          have c2 := hf k 2 (.int .i64 x.p) (by rw [hx]; rfl) hke
          have c3 := hf k 3 (.string x.d) (by rw [hx]; rfl) hke
          have c4 := hf k 4 (.int .i64 x.c) (by rw [hx]; rfl) hke
          have c5 := hf k 5 (.int .i64 x.u) (by rw [hx]; rfl) hke
          have c6 := hf k 6 (.int .i64 x.v) (by rw [hx]; rfl) hke
          have hbb : b < w.heap.size := World.block_lt_of_cell? w ⟨b, off + k * 7 + 0, none⟩ c0
          have q0 : ∀ a, wr.cell? ⟨b, a, none⟩ = w.cell? ⟨b, a, none⟩ := fun a => HB.out.cell (p := ⟨b, a, none⟩) hbb
          simp only [← q0, Nat.add_zero] at c0 c1 c2 c3 c4 c5 c6
          clear q0 hf
          have HX := Lib.hid hx
          have hds : x.d.size ≤ maxLen := hd x (by rw [← hx, List.getD_eq_getElem?_getD, List.getElem?_eq_getElem hke]; exact List.getElem_mem hke)
          have HBa := Lib.hid (HB.out.alloc HB.out.size (.cells x.cs 57))
          have HCa := Lib.hid (HC.out.alloc (.cells x.cs 57))
          have HOa := Lib.hid (HO.out.alloc (.cells x.cs 57))
          have hll := codesL_len f c (es.take k)
          rw [List.length_take] at hll
          clear hx hd
          by_cases h1 : x.k = 1
          · have hjd : ∀ W, Below w.heap.size w W → Calls Tryd.prog 32 #[.agg (cfgA f c y), .int .i64 x.p, .string x.d] W fun e w' => ∃ j1 j2 j3 j5, e = .returned (.tuple #[.agg #[.int .i64 j1, .int .i64 j2, .int .i64 j3], .int .i64 (codeE f c x), .int .i64 j5]) ∧ Below W.heap.size W w' := fun W hb => by
              obtain ⟨⟨j, er⟩, hj⟩ : ∃ q, jdgE f c x.p x.d.data.toList = q := ⟨_, rfl⟩
              refine (judgeE_any f c x.p y x.d W hds (hg.next hb) j er hj).mono ?_
              rintro e w' ⟨rfl, hb'⟩
              exact ⟨j.k, j.a, j.b, er, by unfold codeE; rw [hj], hb'⟩
            have HE : Hid (codesL f c (es.take (k + 1)) = codesL f c (es.take k) ++ [codeE f c x]) := by
              have := codesL_hit f c es k hke (by rw [HX.out]; unfold isP; simp [h1])
              rw [HX.out] at this; exact this
            generalize codeE f c x = cd at *
            obtain ⟨t, kk, p, dd, cc, uu, vv⟩ := x
            try dsimp only at c0 c1 c2 c3 c4 c5 c6
            dsimp only at h1 hjd hds
            subst h1
            clear HX
            go_wp2_with (first
              | (refine wpList_load_bl rfl 40 (.tmp 2) rfl _ rfl 40 _ _ HCa.out Tryd.underlying40 rfl info40 ?_)
              | (go_at_call 32; refine (hjd _ HBa.out).mono ?_; rintro e w3 ⟨j1, j2, j3, j5, rfl, hb1⟩; have HB3 := Lib.hid (HBa.out.trans (hb1.mono HBa.out.size)); have HC3 := Lib.hid (HCa.out.below hb1 HCa.out.lt); have HO3 := Lib.hid (HOa.out.kept (grown_below (r := none) hb1) (by cases u9.ownBlock <;> simp)); clear hb1)
              | (at_builtin; refine wpList_append_own _ rfl _ _ 26 rfl (w.heap.size + 1) 3 i0 (.int .i64 0) 1 8 Tryd.underlying26 hi hz0 hz1 hz2 rfl (by decide) _ _ _ rfl ((HO3.out.alloc _).alloc _) ⟨w3.heap.size + 1, 0, none⟩ 1 1 [.int .i64 cd] rfl rfl (cells_newA w3 _ #[.int .i64 cd] _) (by simp [Value.oneCell']) (by unfold maxLen; omega) (by omega) (by simp only [World.size_alloc]; have := HC3.out.lt; omega) ?_; intro v' w6 hown' hgrow _; have HO6 := Lib.hid hown'; have HG6 := Lib.hid hgrow; clear hown' hgrow)
              | fail)
            have HB5 := (HB3.out.alloc HB3.out.size (.cells #[.int .i64 j1, .int .i64 j2, .int .i64 j3] 43)).alloc (HB3.out.alloc HB3.out.size _).size (.cells #[.int .i64 cd] 3)
            go_roundw
            case rel =>
              refine ⟨k + 1, by omega, by go_num, ?_, ?_, ?_⟩
              · show World.ownsRow _ _ _ _ _ _ _
                rw [HE.out, List.length_append, List.map_append]; exact HO6.out
              · exact ((HC3.out.alloc _).alloc _).grown HG6.out (fun e => by have := (HO3.out.lt w.heap.size e.symm).1; omega)
              · exact HB5.grown HG6.out HB5.size (fun k e => by have := (HO3.out.lt k e).1; omega)
            case measure => simp [intOf]; omega
          · have HE : Hid (codesL f c (es.take (k + 1)) = codesL f c (es.take k)) := codesL_miss f c es k hke (by rw [HX.out]; unfold isP; simpa using h1)
            have t1 : (x.k == 1) = false := by simpa using h1
            obtain ⟨t, kk, p, dd, cc, uu, vv⟩ := x
            try dsimp only at c0 c1 c2 c3 c4 c5 c6
            dsimp only at t1
            clear h1 HX hds
            go_wp2_with fail
            go_roundw
            case rel =>
              refine ⟨k + 1, by omega, by go_num, ?_, HCa.out, HBa.out⟩
              show World.ownsRow _ _ _ _ _ _ _
              rw [HE.out]; exact HOa.out
            case measure => simp [intOf]; omega
        · have a1 : ¬ (k : Int) < n := by omega
          obtain rfl : k = n := by omega
          have h := HO.out
          rw [List.take_of_length_le (by rw [HN.out]; exact Nat.le_refl _)] at h
          have HO2 := Lib.hid h
          clear h hf
          go_wp2_with fail
          go_ret2
          exact ⟨_, rfl, ownI_sees HO2.out, HB.out⟩
    · have hcs : codesS f c es = ([], firstErr es) := by unfold codesS; rw [if_neg (by simpa using hv), if_pos he]
      rw [hcs]
      have hne : (firstErr es != 0) = true := by simpa using he
      generalize firstErr es = E at *
      generalize es.length = n at *
      clear hv he hcs hf hd
      go_enter Tryd.func38, Tryd.ntmps38
      go_wp2_with (first
        | (refine wpList_load_bl rfl 40 (.tmp 2) rfl _ rfl 40 _ _ HC.out Tryd.underlying40 rfl info40 ?_)
        | (go_at_call 62; refine (hva _).mono ?_; rintro e w1 ⟨rfl, hb1⟩; replace HB := Lib.hid (HB.out.trans (hb1.mono HB.out.size)); clear hb1)
        | (go_at_call 35; refine (hsp _ HB.out).mono ?_; rintro e w2 ⟨a, rfl, -, hb1⟩; replace HB := Lib.hid (HB.out.trans (hb1.mono HB.out.size)); clear hb1)
        | fail)
      go_ret2
      exact ⟨_, rfl, ⟨none, 0, rfl, fun h0 => by simp at h0⟩, HB.out⟩
  · have hcs : codesS f c es = ([], 2) := by unfold codesS; rw [if_pos hv]
    rw [hcs]
    rw [vErr_two hv] at hva
    generalize es.length = n at *
    clear hv hcs hf hd S
    go_enter Tryd.func38, Tryd.ntmps38
    go_wp2_with (first
      | (refine wpList_load_bl rfl 40 (.tmp 2) rfl _ rfl 40 _ _ HC.out Tryd.underlying40 rfl info40 ?_)
      | (go_at_call 62; refine (hva _).mono ?_; rintro e w1 ⟨rfl, hb1⟩; replace HB := Lib.hid (HB.out.trans (hb1.mono HB.out.size)); clear hb1)
      | fail)
    go_ret2
    exact ⟨_, rfl, ⟨none, 0, rfl, fun h0 => by simp at h0⟩, HB.out⟩

theorem codes_sees (f c : Int) (y : Nat → Value) {v : Value} {es : List Et} {w : World} (S : SeesE w v es) (hm : es.length ≤ 1000) (hd : ∀ e ∈ es, e.d.size ≤ maxLen) (hg : Glob w) :
    Calls Tryd.prog 38 #[.agg (cfgA f c y), v] w fun e w' => ∃ a, e = .returned (.tuple #[a, .int .i64 (codesS f c es).2]) ∧ SeesI w' a (codesS f c es).1 ∧ Below w.heap.size w w' := by
  have S0 := S
  obtain ⟨ao, cap, rfl, hc⟩ := S
  rcases Nat.eq_zero_or_pos es.length with h0 | h0
  · obtain rfl := List.eq_nil_of_length_eq_zero h0
    exact codes_cells f c y 0 0 cap [] (by simp) (by simp) w hg (fun k j u _ hk => by simp at hk) ao (fun h => by simp at h) S0
  · obtain ⟨b, off, rfl, hx⟩ := hc h0
    exact codes_cells f c y b off cap es hm hd w hg hx _ (fun _ => rfl) S0
end Go.Proofs.YtaipifjmkbcjjaaDoor
