/- Walks: WireFinds. -/
import Derived.Test.YtaipifjmkbcjjaaDoorZg8
import Derived.Test.YtaipifjmkbcjjaaDoorZAw
import Derived.Test.YtaipifjmkbcjjaaDoorZMk
import Derived.Deep.CutRange
namespace Go.Proofs.YtaipifjmkbcjjaaDoor
open Go.RowKit Go.Sort

/-- A slice of integers that came in. -/
def IsRow (k : IntKind) (w : World) (a : Option Addr) (len cap : Nat) (zs : List Int) : Prop :=
  (a = none ∧ len = 0 ∧ cap = 0 ∧ zs = []) ∨
  ∃ x, a = some x ∧ len ≤ cap ∧ cap ≤ maxLen ∧ zs.length = cap ∧ (∀ i, i < zs.length → w.cell? (x.add i) = some (.int k (zs.getD i 0))) ∧ ∀ n ∈ zs, (Lit.int k n).wf = true

theorem IsRow.at {w : World} {a : Option Addr} {len cap : Nat} {zs : List Int} (h : IsRow .i64 w a len cap zs) (k : Nat) (hk : k < len) : ∃ x, a = some x ∧ w.cell? (x.add k) = some (.int .i64 (zs.getD k 0)) := by
  rcases h with ⟨-, h0, -⟩ | ⟨x, ha, hl, -, hz, hc, -⟩
  · omega
  · exact ⟨x, ha, hc k (by omega)⟩

theorem row_cell {w W : World} {x : Addr} {k : Nat} {v : Value} (hb : Below w.heap.size w W) (h : w.cell? (x.add k) = some v) : W.cell? (x.add k) = some v :=
  (hb.cell (World.block_lt_of_cell? w _ h)).trans h

set_option maxRecDepth 100000 in
set_option maxHeartbeats 4000000 in
theorem WireFinds_any (a0 : Option Addr) (len0 cap0 : Nat) (z0 : List Int) (a1 : Option Addr) (len1 cap1 : Nat) (z1 : List Int) (w : World) (hg : Glob w) (w0 : IsRow .i64 w a0 len0 cap0 z0) (w1 : IsRow .i64 w a1 len1 cap1 z1) :
    Calls Tryd.prog 16 #[.slice a0 len0 cap0, .slice a1 len1 cap1] w fun e w' => e = .returned (.bool true) ∧ Below w.heap.size w w' := by
  obtain ⟨i0, hi, hz0, hz1, hz2⟩ := info_parts Tr.info68
  have haw : ∀ W, Below w.heap.size w W → Calls Tryd.prog 42 #[] W _ := fun W hb => awake06 W (hg.next hb)
  have hat : ∀ k W, Below w.heap.size w W → Calls Tryd.prog 55 #[.slice a1 len1 cap1, .int .i64 (k : Nat)] W fun e w' => e = .returned (.int .i64 (if k < len1 then z1.getD k 0 else 0)) ∧ W = w' := fun k W hb => by
    by_cases hk : k < len1
    · obtain ⟨x, rfl, hc⟩ := w1.at k hk
      rw [if_pos hk]; exact at_in x len1 cap1 k _ W hk (row_cell hb hc)
    · rw [if_neg hk]; exact at_out a1 len1 cap1 k W (by omega)
  have hrow : ∀ k, k < len0 → ∃ x, a0 = some x ∧ w.cell? (x.add k) = some (.int .i64 (z0.getD k 0)) := fun k hk => w0.at k hk
  have hma : ∀ n W, Calls Tryd.prog 49 #[.int .i64 n] W fun e w' => e = .returned (mFr n).v ∧ Below W.heap.size W w' := fun n W => made_of n W
  have hen : ∀ n W, Below w.heap.size w W → Calls Tryd.prog 48 #[(mFr n).v] W fun e w' => e = .returned (.tuple #[.string (bs (formF (mFr n))), .int .i64 0]) ∧ Below W.heap.size W w' := fun n W hb => encode_ok _ _ _ _ W (mFr_ok n) (hg.next hb)
  have hmo : ∀ n W, Calls Tryd.prog 18 #[.int .i64 n, .int .i64 64] W fun e w' => e = .returned (.int .i64 (n % 64)) ∧ W = w' := fun n W => mod_any n 64 W (by decide) (by decide)
  have hscn : ∀ L : List UInt8, L.length ≤ 1000000 → ∀ W, Below w.heap.size w W → Calls Tryd.prog 45 #[.string (bs L)] W _ := fun L hL W hb => scan_any L hL W (hg.next hb)
  have hjn : ∀ (v : Value) (fs : List Fr) W, Below w.heap.size w W → SeesF W v fs → fs.length ≤ 1000 → (∀ f ∈ fs, chkF f = 0) → Calls Tryd.prog 56 #[v] W fun e w' => e = .returned (.tuple #[.string (bs (fs.flatMap formF)), .int .i64 0]) ∧ Below W.heap.size W w' := fun v fs W hb hs hl ho => by
    have h := join_sees hs hl (hg.next hb)
    rw [joinS_ok fs ho] at h; exact h
  clear w0 w1
  obtain ⟨ns, hns⟩ : ∃ ns : Nat → Int, (fun k => z0.getD k 0) = ns := ⟨_, rfl⟩
  obtain ⟨js, hjs⟩ : ∃ js : Nat → Int, (fun k => if k < len1 then z1.getD k 0 else 0) = js := ⟨_, rfl⟩
  have e1 : ∀ k, z0.getD k 0 = ns k := fun k => by rw [← hns]
  have e2 : ∀ k, (if k < len1 then z1.getD k 0 else 0) = js k := fun k => by rw [← hjs]
  simp only [e1] at hrow
  simp only [e2] at hat
  clear e1 e2 hns hjs
  have HB0 := Lib.hid (Below.refl w.heap.size w)
  go_enter Tryd.func16, Tryd.ntmps16
  go_wp2
  go_loopw [5, 6, 7, 8] (fun l s g i wr => ∃ k : Nat, k ≤ len0 ∧ k ≤ 12 ∧ i = .int .i64 k ∧ (∃ S, s = .string S ∧ Hid (S = bs (strm ns js k))) ∧ (∃ G : Nat, g = .int .i64 (G : Int) ∧ Hid (G = gps js k)) ∧
      Hid (wr.ownsRow w.heap.size 68 4 l k (flat (frs ns k))) ∧ Hid (Below w.heap.size w wr))
    (fun _ _ _ i _ => 12 - (intOf i).toNat)
  case atStart => exact ⟨0, Nat.zero_le _, Nat.zero_le _, rfl, ⟨_, rfl, rfl⟩, ⟨0, rfl, rfl⟩, World.ownsRow_nil _ _ _ _, HB0.out⟩
  case round =>
    obtain ⟨k, hk, hk12, rfl, ⟨S, rfl, HS⟩, ⟨G, rfl, HG⟩, HO, HB⟩ := hrel
    clear HB0
    by_cases hlt : k < len0 ∧ k < 12
    · obtain ⟨h1, h2⟩ := hlt
      obtain ⟨x, rfl, hc⟩ := hrow k h1
      have hcell := row_cell HB.out hc
      have a1' : decide ((k : Int) < (len0 : Int)) = true := by simp; omega
      have a2' : decide ((k : Int) < 12) = true := by simp; omega
      have a3 : (0 : Int) ≤ (k : Int) := by omega
      have a4 : (k : Int) < (len0 : Int) := by omega
      have hma1 := hma (ns k)
      have hen1 := hen (ns k)
      have hat1 := hat k
      have hmo1 := hmo (js k)
      have hr0 := Int.emod_nonneg (js k) (show (64 : Int) ≠ 0 by decide)
      have hr1 := Int.emod_lt_of_pos (js k) (show (0 : Int) < 64 by decide)
      obtain ⟨g, hgk⟩ : ∃ g, gapN (js k) = g := ⟨_, rfl⟩
      have hg10 : js k % 64 % 10 = (g : Int) := by rw [← hgk]; unfold gapN; omega
      have hg9 : g ≤ 9 := by rw [← hgk]; exact gapN_le _
      have hsl := strm_len ns js k
      have hfn := formF_len (mFr (ns k))
      have hSs : S.size ≤ 252 := by rw [HS.out, bs_size]; omega
      have hXs : (bs (formF (mFr (ns k)))).size ≤ 12 := by rw [bs_size]; exact hfn
      have HS2 : Hid (S ++ (⟨#[120, 59, 48, 44, 80, 255, 10, 32, 104]⟩ : ByteArray).extract 0 g ++ bs (formF (mFr (ns k))) = bs (strm ns js (k + 1))) := by
        show _ = bs (strm ns js k ++ (junkT.take (gapN (js k)) ++ formF (mFr (ns k))))
        rw [← bs_append, ← bs_append, HS.out, hgk]
        have e : (⟨#[120, 59, 48, 44, 80, 255, 10, 32, 104]⟩ : ByteArray).extract 0 g = bs (junkT.take g) := by
          apply ByteArray.ext; apply Array.ext'; rw [extract_list, bs_list]; rfl
        rw [e, ByteArray.append_assoc]
      have HG2 : Hid (G + g = gps js (k + 1)) := by show _ = gps js k + gapN (js k); rw [HG.out, hgk]
      have HF2 : Hid (flat (frs ns (k + 1)) = flat (frs ns k) ++ (mFr (ns k)).c.toList) := by show flat (frs ns k ++ [_]) = _; rw [flat_snoc]
      have hgl := gps_le js k
      have hGs : G ≤ 108 := by rw [HG.out]; omega
      clear hma hen hat hmo hscn hjn hrow hc hgk hsl hfn hgl HS HG
      generalize js k % 64 = r at *
      generalize js k = jv at *
      generalize mFr (ns k) = f at *
      generalize ns k = nv at *
      generalize bs (formF f) = X at *
      have b1 : (0 : Int) ≤ (g : Int) := by omega
      have b2 : (g : Int) ≤ 9 := by omega
      have hgs : ((⟨#[120, 59, 48, 44, 80, 255, 10, 32, 104]⟩ : ByteArray).extract 0 g).size = g := by
        rw [ByteArray.size_extract]; show min g 9 - 0 = g; omega
      have n1 : ¬ 9223372036854775807 < S.size + g := by omega
      have n2 : ¬ 9223372036854775807 < S.size + g + X.size := by omega
      have wg : IntKind.i64.wrap ((G : Int) + (g : Int)) = (G : Int) + g := IntWalk.i64_in _ (by omega)
      have HX := Lib.hid hcell
      have hbl : x.block < x.block + 1 := by omega
      go_wp2_with (first
        | (go_at_call 49; refine (hma1 _).mono ?_; rintro e w1 ⟨rfl, hb1⟩; have HB1 := Lib.hid (HB.out.trans (hb1.mono HB.out.size)); have HO1 := Lib.hid (HO.out.kept (grown_below (r := none) hb1) (by cases u5.ownBlock <;> simp)); have hcell1 := row_cell hb1 hcell; clear hb1)
        | (go_at_call 48; refine (hen1 _ HB1.out).mono ?_; rintro e w2 ⟨rfl, hb1⟩; have HB2 := Lib.hid (HB1.out.trans (hb1.mono HB1.out.size)); have HO2 := Lib.hid (HO1.out.kept (grown_below (r := none) hb1) (by cases u5.ownBlock <;> simp)); have hcell2 := row_cell hb1 hcell1; clear hb1 HO HB HO1 HB1)
        | (go_at_call 55; refine (hat1 _ HB2.out).mono ?_; rintro e w3 ⟨rfl, rfl⟩)
        | (go_at_call 18; refine (hmo1 _).mono ?_; rintro e w4 ⟨rfl, rfl⟩)
        | fail)
      refine (hma1 _).mono ?_
      rintro e w5 ⟨rfl, hb1⟩
      have HB5 := Lib.hid (HB2.out.trans (hb1.mono HB2.out.size))
      have HO5 := Lib.hid (HO2.out.kept (grown_below (r := none) hb1) (by cases u5.ownBlock <;> simp))
      clear hb1 hma1 hen1 hat1 hmo1 hcell hcell1 hcell2 HB2 HO2
      go_wp2_with (first
        | (at_builtin; refine wpList_append_own _ rfl _ _ 74 rfl w.heap.size 68 i0 fr0.v 4 32 Tryd.underlying74 hi hz0 hz1 hz2 rfl (by decide) _ _ _ rfl (HO5.out.alloc _) ⟨w5.heap.size, 0, none⟩ 1 1 f.c.toList rfl rfl (cells_new _ _ _) (by simp [Value.oneCell']) (by unfold maxLen; omega) (by omega) (by simp only [World.size_alloc]; have := HB5.out.size; omega) ?_; intro v' w6 hown' hgrow _; have HO6 := Lib.hid hown'; have HG6 := Lib.hid hgrow; clear hown' hgrow)
        | fail)
      go_roundw
      case rel =>
        refine ⟨k + 1, by omega, by omega, by go_num, ⟨_, rfl, HS2⟩, ⟨G + g, by go_num, HG2⟩, ?_, ?_⟩
        · show World.ownsRow _ _ _ _ _ _ _
          rw [HF2.out]
          exact HO6.out
        · exact (HB5.out.alloc HB5.out.size _).grown HG6.out (HB5.out.alloc HB5.out.size _).size (fun k e => (HO5.out.lt k e).1)
      case measure => simp [intOf]; omega
    · have hK : (frs ns k).length = k := frs_len ns k
      have hok := frs_ok ns k
      have hsl := strm_len ns js k
      have hsc1 := hscn (strm ns js k) (by omega)
      obtain ⟨hi1, hi2⟩ := strm_items ns js k
      rw [hi1, hi2] at hsc1
      have hjl := join_len (frs ns k)
      have hsc2 := hscn ((frs ns k).flatMap formF) (by omega)
      obtain ⟨hi3, hi4⟩ := join_items (frs ns k) hok
      rw [hi3, hi4] at hsc2
      rw [← HS.out, ← HG.out] at hsc1
      have hjo := fun W hb hs => hjn u5 (frs ns k) W hb hs (by omega) hok
      have HO' : Hid (wr.ownsRow w.heap.size 68 4 u5 (frs ns k).length (flat (frs ns k))) := by show World.ownsRow _ _ _ _ _ _ _; rw [hK]; exact HO.out
      have hml : (frs ns k).length ≤ maxLen := by unfold maxLen; omega
      have hcond : k = len0 ∨ (k < len0 ∧ k = 12) := by omega
      clear hscn hjn hma hen hmo hat hrow HS HG HO hlt hi1 hi2 hi3 hi4 hok hK hsl hjl
      generalize bs ((frs ns k).flatMap formF) = J at *
      generalize frs ns k = F at *
      have hd : ((k : Int) < (len0 : Int) ↔ False) ∧ (k < len0 ↔ False) ∨ ((k : Int) < (len0 : Int) ↔ True) ∧ (k < len0 ↔ True) ∧ ((k : Int) < 12 ↔ False) ∧ (k < 12 ↔ False) := by
        rcases hcond with h | ⟨h1, h2⟩
        · left; simp; omega
        · right; simp; omega
      clear hcond hk hk12
      rcases hd with ⟨d1, d3⟩ | ⟨d1, d3, d2, d4⟩
      all_goals go_upto_region 13 with fail
      all_goals go_upto_region 14 with (first
        | (go_at_call 45; refine (hsc1 _ HB.out).mono ?_; rintro e w1 ⟨v1, rfl, ho1, hb1⟩; have HB1 := Lib.hid (HB.out.trans (hb1.mono HB.out.size)); have HO1 := Lib.hid ho1; replace HO' := Lib.hid (HO'.out.kept (grown_below (r := none) hb1) (by cases u5.ownBlock <;> simp)); clear hb1 ho1)
        | fail)
      all_goals clear hsc1
      all_goals go_upto_region 15 with (first
        | (go_at_call 56; refine (hjo _ HB1.out (own_sees HO'.out)).mono ?_; rintro e w2 ⟨rfl, hb1⟩; have HB2 := Lib.hid (HB1.out.trans (hb1.mono HB1.out.size)); replace HO1 := Lib.hid (HO1.out.kept (grown_below (r := none) hb1) (by cases v1.ownBlock <;> simp)); replace HO' := Lib.hid (HO'.out.kept (grown_below (r := none) hb1) (by cases u5.ownBlock <;> simp)); clear hb1)
        | fail)
      all_goals clear hjo
      all_goals go_upto_region 16 with (first
        | (go_at_call 45; refine (hsc2 _ HB2.out).mono ?_; rintro e w3 ⟨v2, rfl, ho1, hb1⟩; have HB3 := Lib.hid (HB2.out.trans (hb1.mono HB2.out.size)); have HO2 := Lib.hid ho1; replace HO1 := Lib.hid (HO1.out.kept (grown_below (r := none) hb1) (by cases v1.ownBlock <;> simp)); replace HO' := Lib.hid (HO'.out.kept (grown_below (r := none) hb1) (by cases u5.ownBlock <;> simp)); clear hb1 ho1)
        | fail)
      all_goals clear hsc2
      all_goals go_wp2_with (first
        | (go_at_call 47; refine (sameFrames_sees (own_sees HO1.out) (own_sees HO'.out) hml).mono ?_; rintro e w4 ⟨rfl, hb1⟩; have HB4 := Lib.hid (HB3.out.trans (hb1.mono HB3.out.size)); replace HO2 := Lib.hid (HO2.out.kept (grown_below (r := none) hb1) (by cases v2.ownBlock <;> simp)); replace HO' := Lib.hid (HO'.out.kept (grown_below (r := none) hb1) (by cases u5.ownBlock <;> simp)); clear hb1 HO1)
        | (go_at_call 47; refine (sameFrames_sees (own_sees HO2.out) (own_sees HO'.out) hml).mono ?_; rintro e w5 ⟨rfl, hb1⟩; have HB5 := Lib.hid (HB4.out.trans (hb1.mono HB4.out.size)); clear hb1)
        | (go_at_call 42; refine (haw _ HB5.out).mono ?_; rintro e w6 ⟨rfl, hb1⟩; have HB6 := Lib.hid (HB5.out.trans (hb1.mono HB5.out.size)); clear hb1)
        | fail)
      all_goals go_ret
      all_goals exact ⟨by first | rfl | trivial, HB6.out⟩
end Go.Proofs.YtaipifjmkbcjjaaDoor
