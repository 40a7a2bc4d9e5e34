/- Walks: entries made of numbers. -/
import Derived.Test.YtaipifjmkbcjjaaDoorZEt
import Derived.Test.YtaipifjmkbcjjaaDoorZSp
import Derived.Test.YtaipifjmkbcjjaaDoorZWf
import Derived.Test.YtaipifjmkbcjjaaDoorZg7
namespace Go.Proofs.YtaipifjmkbcjjaaDoor
open Go.RowKit Go.Sort

/-- The entry of a number. -/
def madE (i m : Int) : Et :=
  if m % 4 = 0 then ⟨i, 2, 0, ⟨#[]⟩, 1 + m / 8 % 2, 1, m / 8 % 99⟩
  else if m % 4 = 1 then ⟨i, 1, m / 8 % 24, ⟨#[63]⟩, 0, 0, 0⟩
  else ⟨i, 1, m / 8 % 24, bs (sentL (m / 256 % 24) (m / 8 % 65536)), 0, 0, 0⟩
def madL (ns : Nat → Int) : Nat → List Et
  | 0 => []
  | k + 1 => madL ns k ++ [madE k (ns k % 16777216)]
theorem madL_len (ns : Nat → Int) : ∀ k, (madL ns k).length = k
  | 0 => rfl
  | k + 1 => by show (madL ns k ++ [_]).length = _; rw [List.length_append, madL_len ns k]; rfl
theorem madE_ok (i m : Int) : entErr (madE i m) = 0 := by
  unfold madE
  split
  · rfl
  · split
    · unfold entErr; simp; omega
    · unfold entErr; simp; omega
theorem madE_size (i m : Int) : (madE i m).d.size ≤ 12 := by
  unfold madE
  split
  · show (0 : Nat) ≤ 12; omega
  · split
    · show (1 : Nat) ≤ 12; omega
    · show (bs _).size ≤ 12
      rw [bs_size]; exact (sent_len _ _).2

theorem grownBy_at (W : World) (b o : Nat) (v : Value) : W.grownBy (W.setCell ⟨b, o, none⟩ v) (some b) :=
  ⟨rfl, rfl, rfl, by simp, fun k _ hk => heap_setCell_other W ⟨b, o, none⟩ k v (fun e => hk (by rw [e]))⟩
theorem apartG {W : World} {b1 n sz : Nat} {E : TypeId} {v : Value} {xs : List Value} (h3 : W.ownsRow b1 E sz v n xs) : v.ownBlock = none ∨ v.ownBlock ≠ some W.heap.size := by
  cases e : v.ownBlock with
  | none => left; rfl
  | some b => right; intro e'; have h1 := h3.lt b e; have e2 : b = W.heap.size := Option.some.inj e'; omega

set_option maxRecDepth 100000 in
set_option maxHeartbeats 4000000 in
theorem made24_any (a0 : Option Addr) (len0 cap0 : Nat) (z0 : List Int) (w : World) (hg : Glob w) (w0 : IsRow .i64 w a0 len0 cap0 z0) :
    Calls Tryd.prog 40 #[.slice a0 len0 cap0] w fun e w' => ∃ v, e = .returned v ∧ w'.ownsRow w.heap.size 57 7 v (min len0 20) (flatE (madL (fun k => z0.getD k 0) (min len0 20))) ∧ Below w.heap.size w w' := by
  obtain ⟨i0, hi, hz0, hz1, hz2⟩ := info_parts Tr.info57
  have hrow : ∀ k, k < len0 → ∃ x, a0 = some x ∧ w.cell? (x.add k) = some (.int .i64 (z0.getD k 0)) := fun k hk => w0.at k hk
  clear w0
  obtain ⟨ns, hns⟩ : ∃ ns : Nat → Int, (fun k => z0.getD k 0) = ns := ⟨_, rfl⟩
  have e1 : ∀ k, z0.getD k 0 = ns k := fun k => by rw [← hns]
  simp only [e1] at hrow
  rw [hns]
  clear e1 hns
  have hfour := four_any
  have hev := event_of
  have HB0 := Lib.hid (Below.refl w.heap.size w)
  go_enter Tryd.func40, Tryd.ntmps40
  go_wp2
  go_loopw [3, 4] (fun l i wr => ∃ k : Nat, k ≤ len0 ∧ k ≤ 20 ∧ i = .int .i64 k ∧ Hid (wr.ownsRow w.heap.size 57 7 l k (flatE (madL ns k))) ∧ Hid (Below w.heap.size w wr))
    (fun _ i _ => 20 - (intOf i).toNat)
  case atStart => exact ⟨0, Nat.zero_le _, Nat.zero_le _, rfl, World.ownsRow_nil _ _ _ _, HB0.out⟩
  case round =>
    obtain ⟨k, hk, hk20, rfl, HO, HB⟩ := hrel
    clear HB0
    by_cases hlt : k < len0 ∧ k < 20
    · obtain ⟨h1, h2⟩ := hlt
      obtain ⟨x, rfl, hc⟩ := hrow k h1
      have hcell := row_cell HB.out hc
      have a1' : decide ((k : Int) < (len0 : Int)) = true := by simp; omega
      have a2' : decide ((k : Int) < 20) = true := by simp; omega
      have a3 : (0 : Int) ≤ (k : Int) := by omega
      have a4 : (k : Int) < (len0 : Int) := by omega
      have hmo : ∀ W, Calls Tryd.prog 18 #[.int .i64 (ns k), .int .i64 16777216] W fun e w' => e = .returned (.int .i64 (ns k % 16777216)) ∧ W = w' := fun W => mod_any (ns k) 16777216 W (by decide) (by decide)
      have hr0 := Int.emod_nonneg (ns k) (show (16777216 : Int) ≠ 0 by decide)
      have hr1 := Int.emod_lt_of_pos (ns k) (show (0 : Int) < 16777216 by decide)
      have HF2 : Hid (flatE (madL ns (k + 1)) = flatE (madL ns k) ++ (madE k (ns k % 16777216)).cs.toList) := by show flatE (madL ns k ++ [_]) = _; rw [flatE_snoc]
      clear hrow hc
      generalize ns k % 16777216 = m at *
      have w1' : IntKind.i64.wrap (1 + m / 8 % 2) = 1 + m / 8 % 2 := IntWalk.i64_in _ (by omega)
      by_cases q0 : m % 4 = 0
      · have HM : Hid (madE k m = ⟨k, 2, 0, ⟨#[]⟩, 1 + m / 8 % 2, 1, m / 8 % 99⟩) := by show _ = _; unfold madE; rw [if_pos q0]
        go_wp2_with (first
          | (go_at_call 18; refine (hmo _).mono ?_; rintro e w1 ⟨rfl, rfl⟩)
          | (at_builtin; refine wpList_append_own _ rfl _ _ 55 rfl w.heap.size 57 i0 et0.val 7 64 Tryd.underlying55 hi hz0 hz1 hz2 rfl (by decide) _ _ _ rfl ((HO.out.alloc _).alloc _) ⟨wr.heap.size + 1, 0, none⟩ 1 1 (Et.cs ⟨k, 2, 0, ⟨#[]⟩, 1 + m / 8 % 2, 1, m / 8 % 99⟩).toList rfl rfl (cells_newA _ _ _ _) (by simp [Value.oneCell']) (by unfold maxLen; omega) (by omega) (by simp only [World.size_alloc]; have := HB.out.size; omega) ?_; intro v' w6 hown' hgrow _; have HO6 := Lib.hid hown'; have HG6 := Lib.hid hgrow; clear hown' hgrow)
          | fail)
        have HB5 := (HB.out.alloc HB.out.size (.cells (Et.cs ⟨k, 2, 0, ⟨#[]⟩, 1 + m / 8 % 2, 1, m / 8 % 99⟩) 57)).alloc (HB.out.alloc HB.out.size _).size (.cells (Et.cs ⟨k, 2, 0, ⟨#[]⟩, 1 + m / 8 % 2, 1, m / 8 % 99⟩) 57)
        go_roundw
        case rel =>
          refine ⟨k + 1, by omega, by omega, by go_num, ?_, ?_⟩
          · show World.ownsRow _ _ _ _ _ _ _
            rw [HF2.out, HM.out]; exact HO6.out
          · exact HB5.grown HG6.out HB5.size (fun k e => (HO.out.lt k e).1)
        case measure => simp [intOf]; omega
      by_cases q1 : m % 4 = 1
      · have HM : Hid (madE k m = ⟨k, 1, m / 8 % 24, ⟨#[63]⟩, 0, 0, 0⟩) := by show _ = _; unfold madE; rw [if_neg q0, if_pos q1]
        have q0' : (m % 4 == 0) = false := by simpa using q0
        go_wp2_with (first
          | (go_at_call 18; refine (hmo _).mono ?_; rintro e w1 ⟨rfl, rfl⟩)
          | (at_builtin; refine wpList_append_own _ rfl _ _ 55 rfl w.heap.size 57 i0 et0.val 7 64 Tryd.underlying55 hi hz0 hz1 hz2 rfl (by decide) _ _ _ rfl ((HO.out.alloc _).alloc _) ⟨wr.heap.size + 1, 0, none⟩ 1 1 (Et.cs ⟨k, 1, m / 8 % 24, ⟨#[63]⟩, 0, 0, 0⟩).toList rfl rfl (cells_newA _ _ _ _) (by simp [Value.oneCell']) (by unfold maxLen; omega) (by omega) (by simp only [World.size_alloc]; have := HB.out.size; omega) ?_; intro v' w6 hown' hgrow _; have HO6 := Lib.hid hown'; have HG6 := Lib.hid hgrow; clear hown' hgrow)
          | fail)
        have HB5 := (HB.out.alloc HB.out.size (.cells (Et.cs ⟨k, 1, m / 8 % 24, ⟨#[63]⟩, 0, 0, 0⟩) 57)).alloc (HB.out.alloc HB.out.size _).size (.cells (Et.cs ⟨k, 1, m / 8 % 24, ⟨#[63]⟩, 0, 0, 0⟩) 57)
        go_roundw
        case rel =>
          refine ⟨k + 1, by omega, by omega, by go_num, ?_, ?_⟩
          · show World.ownsRow _ _ _ _ _ _ _
            rw [HF2.out, HM.out]; exact HO6.out
          · exact HB5.grown HG6.out HB5.size (fun k e => (HO.out.lt k e).1)
        case measure => simp [intOf]; omega
      have HM : Hid (madE k m = ⟨k, 1, m / 8 % 24, bs (sentL (m / 256 % 24) (m / 8 % 65536)), 0, 0, 0⟩) := by show _ = _; unfold madE; rw [if_neg q0, if_neg q1]
      have q0' : (m % 4 == 0) = false := by simpa using q0
      have q1' : (m % 4 == 1) = false := by simpa using q1
      have hev1 := fun W => hev (m / 8) W
      have hsd := sent_data (m / 256 % 24) (m / 8 % 65536) (by omega) (by omega)
      have hda : ∀ W, Below w.heap.size w W → Calls Tryd.prog 23 #[.agg (cfgA 4 2 x0), .int .i64 (m / 256 % 24), .agg #[.int .i64 (evM (m / 8 % 65536)).1, .int .i64 (evM (m / 8 % 65536)).2.1, .int .i64 (evM (m / 8 % 65536)).2.2]] W fun e w' => e = .returned (.tuple #[.string (bs (sentL (m / 256 % 24) (m / 8 % 65536))), .int .i64 0]) ∧ Below W.heap.size W w' := fun W hb =>
        data_any 4 2 _ _ _ _ x0 W (hg.next hb) _ _ hsd
      clear hsd hev q0 q1 w1'
      generalize (evM (m / 8 % 65536)).1 = E1 at *
      generalize (evM (m / 8 % 65536)).2.1 = E2 at *
      generalize (evM (m / 8 % 65536)).2.2 = E3 at *
      generalize bs (sentL (m / 256 % 24) (m / 8 % 65536)) = D at *
      have HX := Lib.hid (Bl.new wr (Et.cs ⟨k, 1, m / 8 % 24, ⟨#[]⟩, 0, 0, 0⟩) 57)
      have HB1 := Lib.hid (HB.out.alloc HB.out.size (.cells (Et.cs ⟨k, 1, m / 8 % 24, ⟨#[]⟩, 0, 0, 0⟩) 57))
      have HO1 := Lib.hid (HO.out.alloc (.cells (Et.cs ⟨k, 1, m / 8 % 24, ⟨#[]⟩, 0, 0, 0⟩) 57))
      have HP := Lib.hid (apartG HO.out)
      have HBs := Lib.hid HB.out.size
      go_upto_region 13 with (first
        | (go_at_call 18; refine (hmo _).mono ?_; rintro e w1 ⟨rfl, rfl⟩)
        | (go_at_call 24; refine (hfour _).mono ?_; rintro e w1 ⟨rfl, hb1⟩; replace HX := Lib.hid (HX.out.below hb1 HX.out.lt); replace HB1 := Lib.hid (HB1.out.trans (hb1.mono HB1.out.size)); replace HO1 := Lib.hid (HO1.out.kept (grown_below (r := none) hb1) (by cases u3.ownBlock <;> simp)); clear hb1)
        | (go_at_call 25; refine (hev1 _).mono ?_; rintro e w2 ⟨rfl, hb1⟩; replace HX := Lib.hid (HX.out.below hb1 HX.out.lt); replace HB1 := Lib.hid (HB1.out.trans (hb1.mono HB1.out.size)); replace HO1 := Lib.hid (HO1.out.kept (grown_below (r := none) hb1) (by cases u3.ownBlock <;> simp)); clear hb1)
        | (go_at_call 23; refine (hda _ HB1.out).mono ?_; rintro e w3 ⟨rfl, hb1⟩; replace HX := Lib.hid (HX.out.below hb1 HX.out.lt); replace HB1 := Lib.hid (HB1.out.trans (hb1.mono HB1.out.size)); replace HO1 := Lib.hid (HO1.out.kept (grown_below (r := none) hb1) (by cases u3.ownBlock <;> simp)); have hX := HX.out.cell; have hXf := HX.out.fr; clear hb1)
        | fail)
      clear hX hXf hda hev1 hmo
      have HX2 : Hid (Bl wr.heap.size (Et.cs ⟨k, 1, m / 8 % 24, D, 0, 0, 0⟩) 57 (w3.setCell ⟨wr.heap.size, 3, none⟩ (.string D))) := HX.out.set 3 _
      have HB2 := Lib.hid (HB1.out.setCell (p := ⟨wr.heap.size, 3, none⟩) HBs.out (.string D))
      have HO2 := Lib.hid (HO1.out.kept (grownBy_at w3 wr.heap.size 3 (.string D)) HP.out)
      clear HX HB1 HO1
      generalize w3.setCell ⟨wr.heap.size, 3, none⟩ (.string D) = W4 at *
      have hX := HX2.out.cell
      go_wp2_with (first
        | (at_builtin; refine wpList_append_own _ rfl _ _ 55 rfl w.heap.size 57 i0 et0.val 7 64 Tryd.underlying55 hi hz0 hz1 hz2 rfl (by decide) _ _ _ rfl (HO2.out.alloc _) ⟨W4.heap.size, 0, none⟩ 1 1 (Et.cs ⟨k, 1, m / 8 % 24, D, 0, 0, 0⟩).toList rfl rfl (cells_new _ _ _) (by simp [Value.oneCell']) (by unfold maxLen; omega) (by omega) (by simp only [World.size_alloc]; have := HB2.out.size; omega) ?_; intro v' w6 hown' hgrow _; have HO6 := Lib.hid hown'; have HG6 := Lib.hid hgrow; clear hown' hgrow)
        | fail)
      have HB5 := HB2.out.alloc HB2.out.size (.cells (Et.cs ⟨k, 1, m / 8 % 24, D, 0, 0, 0⟩) 57)
      go_roundw
      case rel =>
        refine ⟨k + 1, by omega, by omega, by go_num, ?_, ?_⟩
        · show World.ownsRow _ _ _ _ _ _ _
          rw [HF2.out, HM.out]; exact HO6.out
        · exact HB5.grown HG6.out HB5.size (fun k e => (HO2.out.lt k e).1)
      case measure => simp [intOf]; omega
    · have hcond : (k = len0 ∧ min len0 20 = k) ∨ (k < len0 ∧ k = 20 ∧ min len0 20 = k) := by omega
      have hd : (((k : Int) < (len0 : Int) ↔ False) ∧ (k < len0 ↔ False) ∨ ((k : Int) < (len0 : Int) ↔ True) ∧ (k < len0 ↔ True) ∧ ((k : Int) < 20 ↔ False) ∧ (k < 20 ↔ False)) ∧ min len0 20 = k := by
        rcases hcond with ⟨h, h'⟩ | ⟨h1, h2, h'⟩
        · exact ⟨.inl (by simp; omega), h'⟩
        · exact ⟨.inr (by simp; omega), h'⟩
      obtain ⟨hd, hmin⟩ := hd
      have HMIN := Lib.hid hmin
      clear hcond hk hk20 hlt hmin hrow hfour hev
      rcases hd with ⟨d1, d3⟩ | ⟨d1, d3, d2, d4⟩
      all_goals go_wp2
      all_goals go_ret
      all_goals rw [HMIN.out]
      all_goals exact ⟨_, rfl, HO.out, HB.out⟩
end Go.Proofs.YtaipifjmkbcjjaaDoor

/- Plain words: the lists of domains and the codes of entries, for PortSplit. -/
namespace Go.Proofs.YtaipifjmkbcjjaaDoor

theorem split_at (es : List Et) (k : Nat) (h : k < es.length) : es = es.take k ++ es.getD k et0 :: es.drop (k + 1) := by
  have h1 : es.drop k = es.getD k et0 :: es.drop (k + 1) := by
    rw [List.drop_eq_getElem_cons h]
    simp [List.getD_eq_getElem?_getD, List.getElem?_eq_getElem h]
  rw [← h1, List.take_append_drop]

/-- An entry of a port in the list of its domain. -/
theorem domL_nth (es : List Et) (k : Nat) (h : k < es.length) (x : Et) (hx : es.getD k et0 = x) (hk : x.k = 1) :
    (domL (1 + x.p / 8) (es.take k)).length < (domL (1 + x.p / 8) es).length ∧ (domL (1 + x.p / 8) es).getD (domL (1 + x.p / 8) (es.take k)).length et0 = x := by
  have hs := split_at es k h
  rw [hx] at hs
  have hd : isD (1 + x.p / 8) x = true := by unfold isD; simp [hk]
  have e : domL (1 + x.p / 8) es = domL (1 + x.p / 8) (es.take k) ++ x :: domL (1 + x.p / 8) (es.drop (k + 1)) := by
    conv => lhs; rw [hs]
    unfold domL
    rw [List.filter_append, List.filter_cons_of_pos hd]
  rw [e]
  refine ⟨by rw [List.length_append]; simp, ?_⟩
  simp [List.getD_eq_getElem?_getD]

def portsL (es : List Et) : List Et := es.filter isP
theorem codesL_ports (f c : Int) (es : List Et) : codesL f c (portsL es) = codesL f c es := by
  unfold codesL portsL
  rw [List.filter_filter]
  simp
theorem codesL_count (f c : Int) (es : List Et) : (codesL f c es).length = (portsL es).length := by unfold codesL portsL; rw [List.length_map]
theorem firstErr_zero : ∀ es : List Et, (∀ e ∈ es, entErr e = 0) → firstErr es = 0
  | [], _ => rfl
  | e :: es, h => by
    unfold firstErr
    rw [if_neg (by simpa using h e (by simp))]
    exact firstErr_zero es (fun x hx => h x (by simp [hx]))
theorem codesS_ok (es : List Et) (h : ∀ e ∈ es, entErr e = 0) : codesS 4 2 es = (codesL 4 2 es, 0) := by
  unfold codesS
  rw [if_neg (by simp [cfg4]), if_neg (by simp [firstErr_zero es h])]
theorem madL_ok (ns : Nat → Int) : ∀ k, ∀ e ∈ madL ns k, entErr e = 0
  | 0, e, h => by cases h
  | k + 1, e, h => by
    rcases List.mem_append.1 h with h | h
    · exact madL_ok ns k e h
    · rw [List.mem_singleton.1 h]; exact madE_ok _ _
theorem madL_size (ns : Nat → Int) : ∀ k, ∀ e ∈ madL ns k, e.d.size ≤ 12
  | 0, e, h => by cases h
  | k + 1, e, h => by
    rcases List.mem_append.1 h with h | h
    · exact madL_size ns k e h
    · rw [List.mem_singleton.1 h]; exact madE_size _ _
theorem portsL_hit (es : List Et) (k : Nat) (h : k < es.length) (hd : isP (es.getD k et0) = true) : portsL (es.take (k + 1)) = portsL (es.take k) ++ [es.getD k et0] := by
  rw [take_snocE es k h]; unfold portsL; rw [List.filter_append, List.filter_cons_of_pos hd]; rfl
theorem portsL_miss (es : List Et) (k : Nat) (h : k < es.length) (hd : isP (es.getD k et0) = false) : portsL (es.take (k + 1)) = portsL (es.take k) := by
  rw [take_snocE es k h]; unfold portsL; rw [List.filter_append, List.filter_cons_of_neg (by rw [hd]; decide)]; simp
end Go.Proofs.YtaipifjmkbcjjaaDoor
