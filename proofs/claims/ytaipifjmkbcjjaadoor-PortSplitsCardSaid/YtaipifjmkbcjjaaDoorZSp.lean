/- Walks: PortSpoilt. -/
import Derived.Test.YtaipifjmkbcjjaaDoorZg2
import Derived.Test.YtaipifjmkbcjjaaDoorZg3
import Derived.Deep.RegionWith
import Derived.Deep.CutRange
namespace Go.Proofs.YtaipifjmkbcjjaaDoor
open Go.RowKit Go.Sort

theorem four_cfg (w : World) : Calls Tryd.prog 24 #[] w fun e w' => e = .returned (.agg (cfgA 4 2 x0)) ∧ Below w.heap.size w w' := four_any w

/-- The text sent for an event at a port. -/
def sentL (q m : Int) : List UInt8 := form (1 + q / 8) (evM m).1 (evM m).2.1 (evM m).2.2

theorem sent_ok (q m : Int) (h0 : 0 ≤ q) (h1 : q < 24) : chk (1 + q / 8) (evM m).1 (evM m).2.1 (evM m).2.2 = 0 := by
  apply chk_mk
  unfold evM
  split
  · simp; omega
  · split
    · simp; omega
    · split
      · simp; omega
      · simp; omega

theorem sent_data (q m : Int) (h0 : 0 ≤ q) (h1 : q < 24) : dataS 4 2 q (evM m).1 (evM m).2.1 (evM m).2.2 = (sentL q m, 0) := by
  unfold dataS
  rw [if_neg (by decide), if_neg (by omega), if_neg (by rw [evM_fits]; simp)]
  unfold encF
  rw [if_pos (sent_ok q m h0 h1)]; rfl

theorem sent_len (q m : Int) : 10 ≤ (sentL q m).length ∧ (sentL q m).length ≤ 12 := by
  have h1 := form_len (1 + q / 8) (evM m).1 (evM m).2.1 (evM m).2.2
  have h2 := pay_len (1 + q / 8) (evM m).1 (evM m).2.1 (evM m).2.2
  unfold sentL; omega

/-- One byte changed. -/
def spoilt (L : List UInt8) (k : Nat) (x : UInt8) : List UInt8 := L.take k ++ x :: L.drop (k + 1)

theorem spoilt_bad (q m : Int) (h0 : 0 ≤ q) (h1 : q < 24) (k : Nat) (hk : k < (sentL q m).length) (x : UInt8) (hx : (sentL q m).getD k 0 ≠ x) : judgedB q (spoilt (sentL q m) k x) 0 0 0 6 = true := by
  have hd : (decS (spoilt (sentL q m) k x)).er ≠ 0 := by
    intro e
    obtain ⟨hf, -⟩ := decS_form e
    have h2 : sentL q m = (sentL q m).take k ++ (sentL q m).getD k 0 :: (sentL q m).drop (k + 1) := by
      rw [← drop_cons hk, List.take_append_drop]
    exact hx (form_spoilt h2 hf.symm)
  unfold judgedB jdgE jdg
  rw [if_neg (by decide), if_neg (by omega), if_pos hd]
  rfl

set_option maxHeartbeats 400000 in
attribute [local go_sem] bs_size bs_append

set_option maxRecDepth 100000 in
set_option maxHeartbeats 2000000 in
theorem PortSpoilt_any (n p at' by' : Int) (w : World) (hg : Glob w) :
    Calls Tryd.prog 4 #[.int .i64 n, .int .i64 p, .int .i64 at', .int .i64 by'] w fun e w' => e = .returned (.bool true) ∧ Below w.heap.size w w' := by
  have hp0 := Int.emod_nonneg p (show (24 : Int) ≠ 0 by decide)
  have hp1 := Int.emod_lt_of_pos p (show (0 : Int) < 24 by decide)
  have hmo : ∀ W, Calls Tryd.prog 18 #[.int .i64 p, .int .i64 24] W fun e w' => e = .returned (.int .i64 (p % 24)) ∧ W = w' := fun W => mod_any p 24 W (by decide) (by decide)
  generalize p % 24 = q at *
  have hev : ∀ W, Calls Tryd.prog 25 #[.int .i64 n] W _ := fun W => event_of n W
  generalize n % 65536 = m at *
  obtain ⟨L, hL⟩ : ∃ L, sentL q m = L := ⟨_, rfl⟩
  obtain ⟨k, a, b, hE⟩ : ∃ k a b, evM m = (k, a, b) := ⟨_, _, _, rfl⟩
  have hda := Lib.hid (sent_data q m hp0 hp1)
  have hsb := Lib.hid (spoilt_bad q m hp0 hp1)
  have hln := sent_len q m
  rw [hL] at hda hsb hln
  rw [hE] at hda hev
  simp only [] at hda hev
  clear hL hE
  have hdat : ∀ W, Below w.heap.size w W → Calls Tryd.prog 23 #[.agg (cfgA 4 2 x0), .int .i64 q, .agg #[.int .i64 k, .int .i64 a, .int .i64 b]] W fun e w' => e = .returned (.tuple #[.string (bs L), .int .i64 0]) ∧ Below W.heap.size W w' :=
    fun W hb => data_any 4 2 q k a b x0 W (hg.next hb) L 0 hda.out
  have hsz : (bs L).size = L.length := bs_size L
  obtain ⟨s, hs⟩ : ∃ s, bs L = s := ⟨_, rfl⟩
  have HS := Lib.hid hs
  rw [hs] at hdat hsz
  clear hs
  obtain ⟨N, hN⟩ : ∃ N, L.length = N := ⟨_, rfl⟩
  have HN := Lib.hid hN
  rw [hN] at hsz hln
  clear hN
  have hmk : ∀ W, Calls Tryd.prog 18 #[.int .i64 at', .int .i64 N] W fun e w' => e = .returned (.int .i64 (at' % N)) ∧ W = w' := fun W => mod_any at' N W (by omega) (by omega)
  have hk0 := Int.emod_nonneg at' (show (N : Int) ≠ 0 by omega)
  have hk1 := Int.emod_lt_of_pos at' (show (0 : Int) < N by omega)
  obtain ⟨j, hj⟩ : ∃ j : Nat, at' % N = (j : Int) := ⟨(at' % N).toNat, by omega⟩
  rw [hj] at hmk hk0 hk1
  clear hj
  have hmb : ∀ W, Calls Tryd.prog 18 #[.int .i64 by', .int .i64 255] W fun e w' => e = .returned (.int .i64 (by' % 255)) ∧ W = w' := fun W => mod_any by' 255 W (by decide) (by decide)
  have hr0 := Int.emod_nonneg by' (show (255 : Int) ≠ 0 by decide)
  have hr1 := Int.emod_lt_of_pos by' (show (0 : Int) < 255 by decide)
  generalize by' % 255 = r at *
  have hsm : N ≤ 12 := by omega
  have hcf := four_any
  generalize Value.agg (cfgA 4 2 x0) = V at *
  have HB0 := Lib.hid (Below.refl w.heap.size w)
  go_enter Tryd.func4, Tryd.ntmps4
  go_upto_region 5 with (first
      | (go_at_call 18; refine (hmo _).mono ?_; rintro e w1 ⟨rfl, rfl⟩; clear hmo)
      | (go_at_call 24; refine (hcf _).mono ?_; rintro e w1 ⟨rfl, hb1⟩; have HB1 := Lib.hid (HB0.out.trans hb1); clear hb1)
      | (go_at_call 25; refine (hev _).mono ?_; rintro e w2 ⟨rfl, hb2⟩; have HB2 := Lib.hid (HB1.out.trans (hb2.mono HB1.out.size)); clear hb2)
      | (go_at_call 23; refine (hdat _ HB2.out).mono ?_; rintro e w3 ⟨rfl, hb3⟩; have HB3 := Lib.hid (HB2.out.trans (hb3.mono HB2.out.size)); clear hb3)
      | fail)
  clear hdat hev hcf
  go_upto_region 6 with (go_at_call 18; refine (hmk _).mono ?_; rintro e w4 ⟨rfl, rfl⟩)
  clear hmk
  have hlt : j < s.size := by rw [hsz]; omega
  go_quiet ((go_at_call 18; exact q_same (hmb _)))
  obtain ⟨x, hx, hne⟩ : ∃ x, bits BinOp.xor IntKind.u8 ((s[j]'hlt).toNat : Int) (1 + r) = bn x ∧ L.getD j 0 ≠ x := ⟨s[j] ^^^ UInt8.ofNat (1 + r).toNat, by
    rw [← xor_B]; congr 1
    unfold bn
    rw [UInt8.toNat_ofNat']
    omega, by
    have e1 : L.getD j 0 = s[j] := by
      have := byte_at s j hlt
      have e2 : s.data.toList = L := by rw [← HS.out, bs_list]
      rw [e2] at this; exact this
    rw [e1]
    intro e
    have h0 : UInt8.ofNat (1 + r).toNat = 0 := by
      have h1 : s[j] ^^^ 0 = s[j] ^^^ UInt8.ofNat (1 + r).toNat := by rw [UInt8.xor_zero]; exact e
      exact (xor_inj_left h1).symm
    have h2 := congrArg UInt8.toNat h0
    rw [UInt8.toNat_ofNat'] at h2
    simp at h2
    omega⟩
  simp only [hx]
  have HB4 : Hid (Below w.heap.size w (w3.drewN nq)) := by show _; exact HB3.out.trans (Below.mono ⟨rfl, rfl, rfl, Nat.le_refl _, fun _ _ => rfl⟩ (Nat.le_refl _))
  generalize w3.drewN nq = w4 at *
  have hcv : ∀ W : World, (convert 46 9 (.slice (some ⟨W.heap.size, 0, none⟩) 1 1)).run Tryd.prog (W.alloc (.cells #[.int .u8 (bn x)] 5)).drew = .ok (.string (bs [x])) ((W.alloc (.cells #[.int .u8 (bn x)] 5)).drew) := fun W =>
    run_convert_bytes_back (e := 5) (l := [x]) (cap := 1) _ 46 9 _ (by kernel_rfl) (by kernel_rfl) (by kernel_rfl) (fun i hi => by
      have : i = 0 := by simpa using hi
      subst this
      simp [Addr.add, bn])
  obtain ⟨U, hU⟩ : ∃ U, L.take j = U := ⟨_, rfl⟩
  obtain ⟨T, hT⟩ : ∃ T, L.drop (j + 1) = T := ⟨_, rfl⟩
  have hUl : U.length = j := by rw [← hU, List.length_take, HN.out]; omega
  have hTl : T.length = N - (j + 1) := by rw [← hT, List.length_drop, HN.out]
  have e1 : s.extract 0 j = bs U := by
    rw [← HS.out, ← hU]; apply ByteArray.ext; apply Array.ext'; rw [extract_list, bs_list, bs_list]; simp
  have e2 : s.extract (j + 1) N = bs T := by
    rw [← HS.out, ← hT]; apply ByteArray.ext; apply Array.ext'; rw [extract_list, bs_list, bs_list, List.take_of_length_le]; simp [HN.out]
  have hju : ∀ W, Below w.heap.size w W → Calls Tryd.prog 26 #[.int .i64 q, .string (bs (U ++ x :: T)), .agg #[.int .i64 0, .int .i64 0, .int .i64 0], .int .i64 6] W fun e w' => e = .returned (.bool true) ∧ Below W.heap.size W w' := fun W hb => by
    have h1 := hsb.out j (by rw [HN.out]; omega) x hne
    have h2 := judged_any q 0 0 0 6 (bs (U ++ x :: T)) W (by rw [bs_size]; simp [hUl, hTl, maxLen]; omega) (hg.next hb)
    rw [bs_list] at h2
    unfold spoilt at h1
    rw [hU, hT] at h1
    rw [h1] at h2; exact h2
  have haw : ∀ W, Below w.heap.size w W → Calls Tryd.prog 22 #[] W _ := fun W hb => awake_any W (hg.next hb)
  have HU := Lib.hid hU
  have HT := Lib.hid hT
  clear hU hT hne hx
  have HB5 := Lib.hid ((HB4.out.alloc HB4.out.size (.cells #[.int .u8 (bn x)] 5)).drew)
  go_upto_region 7 with fail
  have b1 : (0 : Int) ≤ (j : Int) := by omega
  have b2 : (j : Int) ≤ (N : Int) := by omega
  have b3 : (0 : Int) ≤ (j : Int) + 1 := by omega
  have b4 : (j : Int) + 1 ≤ (N : Int) := by omega
  have b5 : IntKind.i64.wrap ((j : Int) + 1) = (j : Int) + 1 := IntWalk.i64_in _ (by omega)
  clear hr0 hr1 hp0 hp1
  go_region_with (first
    | (go_at_call 26; refine (hju _ HB5.out).mono ?_; rintro e w5 ⟨rfl, hb5⟩; have HB6 := Lib.hid (HB5.out.trans (hb5.mono HB5.out.size)); clear hb5)
    | (go_at_call 22; refine (haw _ HB6.out).mono ?_; rintro e w6 ⟨rfl, hb6⟩; have HB7 := Lib.hid (HB6.out.trans (hb6.mono HB6.out.size)); clear hb6))
  all_goals go_wp2
  all_goals go_ret
  all_goals exact ⟨by first | rfl | trivial, HB7.out⟩
end Go.Proofs.YtaipifjmkbcjjaaDoor
