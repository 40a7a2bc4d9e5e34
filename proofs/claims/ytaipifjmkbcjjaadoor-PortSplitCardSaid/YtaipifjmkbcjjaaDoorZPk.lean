/- Walks: PortKnown. -/
import Derived.Test.YtaipifjmkbcjjaaDoorZg7
import Derived.Lib.QuietBelow
namespace Go.Proofs.YtaipifjmkbcjjaaDoor
open Go.RowKit Go.Sort

theorem builtE_sees (w : World) (es : List Et) (c : Nat) : SeesE (w.alloc (.cells (flatE es).toArray 57)) (.slice (some ⟨w.heap.size, 0, none⟩) es.length c) es := by
  refine ⟨_, c, rfl, fun _ => ⟨w.heap.size, 0, rfl, fun k j u hu hk => ?_⟩⟩
  rw [(Bl.new w (flatE es).toArray 57).cell]
  have h := flatE_at es k j u hu hk
  rw [show 0 + k * 7 + j = k * 7 + j by omega]
  simpa using h
theorem builtI_sees (w : World) (xs : List Int) (c : Nat) : SeesI (w.alloc (.cells (xs.map (fun i => Value.int .i64 i)).toArray 3)) (.slice (some ⟨w.heap.size, 0, none⟩) xs.length c) xs := by
  refine ⟨_, c, rfl, fun _ => ⟨w.heap.size, 0, rfl, fun k hk => ?_⟩⟩
  rw [(Bl.new w (xs.map (fun i => Value.int .i64 i)).toArray 3).cell]
  simp [List.getD_eq_getElem?_getD, hk]

/-- The chapter's entries. -/
def knownE (s : ByteArray) : List Et := [⟨0, 1, 0, s, 0, 0, 0⟩, ⟨0, 2, 0, ⟨#[]⟩, 1, 1, 0⟩, ⟨0, 1, 9, s, 0, 0, 0⟩, ⟨0, 1, 1, ⟨#[]⟩, 0, 0, 0⟩]
theorem known_codes : codesS 4 2 (knownE (bs (encF 1 1 3 1).1)) = ([0, 5, 6], 0) := by decide +kernel
theorem ports2 : portsS 2 = ([8, 9, 10, 11, 12, 13, 14, 15], 0) := by decide +kernel
theorem ports0 : portsS 0 = ([], 2) := by decide +kernel

set_option maxRecDepth 100000 in
set_option maxHeartbeats 4000000 in
theorem PortKnown_any (w : World) (hg : Glob w) : Calls Tryd.prog 9 #[] w fun e w' => e = .returned (.bool true) ∧ Below w.heap.size w w' := by
  have haw : ∀ W, Below w.heap.size w W → Calls Tryd.prog 22 #[] W _ := fun W hb => awake_any W (hg.next hb)
  have hfr : ∀ t k a b W, Below w.heap.size w W → Calls Tryd.prog 41 #[.int .i64 t, .int .i64 k, .int .i64 a, .int .i64 b] W _ := fun t k a b W hb => frame_any t k a b W (hg.next hb)
  have hju : ∀ p k a b code s W, Below w.heap.size w W → s.size ≤ 100 → judgedB p s.data.toList k a b code = true → Calls Tryd.prog 26 #[.int .i64 p, .string s, .agg #[.int .i64 k, .int .i64 a, .int .i64 b], .int .i64 code] W fun e w' => e = .returned (.bool true) ∧ Below W.heap.size W w' := fun p k a b code s W hb hs hj => by
    have h := judged_any p k a b code s W (by unfold maxLen; omega) (hg.next hb)
    rw [hj] at h; exact h
  have hfour := four_any
  have hd1 : ∀ W, Below w.heap.size w W → Calls Tryd.prog 23 #[.agg (cfgA 4 2 x0), .int .i64 9, .agg #[.int .i64 4, .int .i64 2, .int .i64 3]] W fun e w' => e = .returned (.tuple #[.string (bs (encF 2 4 2 3).1), .int .i64 0]) ∧ Below W.heap.size W w' := fun W hb => data_any 4 2 9 4 2 3 x0 W (hg.next hb) (encF 2 4 2 3).1 0 (by decide +kernel)
  have hd2 : ∀ W, Below w.heap.size w W → Calls Tryd.prog 23 #[.agg (cfgA 4 2 x0), .int .i64 9, .agg #[.int .i64 3, .int .i64 0, .int .i64 0]] W fun e w' => e = .returned (.tuple #[.string (bs []), .int .i64 11]) ∧ Below W.heap.size W w' := fun W hb => data_any 4 2 9 3 0 0 x0 W (hg.next hb) [] 11 (by decide +kernel)
  have hco : ∀ (v : Value) W, Below w.heap.size w W → SeesE W v (knownE (bs (encF 1 1 3 1).1)) → Calls Tryd.prog 38 #[.agg (cfgA 4 2 x0), v] W fun e w' => ∃ a, e = .returned (.tuple #[a, .int .i64 0]) ∧ SeesI w' a [0, 5, 6] ∧ Below W.heap.size W w' := fun v W hb hs => by
    have h := codes_sees 4 2 x0 hs (by decide) (fun e he => by
      have hl : (bs (encF 1 1 3 1).1).size ≤ 12 := by rw [bs_size]; exact encF_len 1 1 3 1
      simp only [knownE, List.mem_cons, List.not_mem_nil, or_false] at he
      rcases he with rfl | rfl | rfl | rfl
      · show (bs (encF 1 1 3 1).1).size ≤ maxLen; unfold maxLen; omega
      · show (⟨#[]⟩ : ByteArray).size ≤ maxLen; decide
      · show (bs (encF 1 1 3 1).1).size ≤ maxLen; unfold maxLen; omega
      · show (⟨#[]⟩ : ByteArray).size ≤ maxLen; decide) (hg.next hb)
    rw [known_codes] at h
    exact h
  have qa : Hid ((bs (encF 1 1 4 1).1).size ≤ 100) := by show _ ≤ _; rw [bs_size]; have := encF_len 1 1 4 1; omega
  have qb : Hid ((bs (encF 3 3 99 0).1).size ≤ 100) := by show _ ≤ _; rw [bs_size]; have := encF_len 3 3 99 0; omega
  have qc : Hid ((bs (encF 1 2 2 0).1).size ≤ 100) := by show _ ≤ _; rw [bs_size]; have := encF_len 1 2 2 0; omega
  have qd : Hid ((bs (encF 1 2 3 0).1).size ≤ 100) := by show _ ≤ _; rw [bs_size]; have := encF_len 1 2 3 0; omega
  have qe : Hid ((bs (encF 1 4 1 4).1).size ≤ 100) := by show _ ≤ _; rw [bs_size]; have := encF_len 1 4 1 4; omega
  have ra : Hid (judgedB 8 (bs (encF 1 1 4 1).1).data.toList 0 0 0 6 = true) := by show _ = _; decide +kernel
  have rb : Hid (judgedB 16 (bs (encF 3 3 99 0).1).data.toList 3 99 0 0 = true) := by show _ = _; decide +kernel
  have rc : Hid (judgedB 0 (bs (encF 1 2 2 0).1).data.toList 2 2 0 0 = true) := by show _ = _; decide +kernel
  have rd : Hid (judgedB 0 (bs (encF 1 2 3 0).1).data.toList 0 0 0 6 = true) := by show _ = _; decide +kernel
  have re : Hid (judgedB 0 (bs (encF 1 4 1 4).1).data.toList 0 0 0 6 = true) := by show _ = _; decide +kernel
  have rf : Hid (judgedB 0 ((⟨#[]⟩ : ByteArray)).data.toList 0 0 0 6 = true) := by show _ = _; decide +kernel
  have fra : ∀ W, Below w.heap.size w W → Calls Tryd.prog 41 #[.int .i64 1, .int .i64 1, .int .i64 4, .int .i64 1] W fun e w' => e = .returned (.string (bs (encF 1 1 4 1).1)) ∧ Below W.heap.size W w' := fun W hb => hfr 1 1 4 1 W hb
  have frb : ∀ W, Below w.heap.size w W → Calls Tryd.prog 41 #[.int .i64 3, .int .i64 3, .int .i64 99, .int .i64 0] W fun e w' => e = .returned (.string (bs (encF 3 3 99 0).1)) ∧ Below W.heap.size W w' := fun W hb => hfr 3 3 99 0 W hb
  have frc : ∀ W, Below w.heap.size w W → Calls Tryd.prog 41 #[.int .i64 1, .int .i64 2, .int .i64 2, .int .i64 0] W fun e w' => e = .returned (.string (bs (encF 1 2 2 0).1)) ∧ Below W.heap.size W w' := fun W hb => hfr 1 2 2 0 W hb
  have frd : ∀ W, Below w.heap.size w W → Calls Tryd.prog 41 #[.int .i64 1, .int .i64 2, .int .i64 3, .int .i64 0] W fun e w' => e = .returned (.string (bs (encF 1 2 3 0).1)) ∧ Below W.heap.size W w' := fun W hb => hfr 1 2 3 0 W hb
  have fre : ∀ W, Below w.heap.size w W → Calls Tryd.prog 41 #[.int .i64 1, .int .i64 4, .int .i64 1, .int .i64 4] W fun e w' => e = .returned (.string (bs (encF 1 4 1 4).1)) ∧ Below W.heap.size W w' := fun W hb => hfr 1 4 1 4 W hb
  have frh : ∀ W, Below w.heap.size w W → Calls Tryd.prog 41 #[.int .i64 1, .int .i64 1, .int .i64 3, .int .i64 1] W fun e w' => e = .returned (.string (bs (encF 1 1 3 1).1)) ∧ Below W.heap.size W w' := fun W hb => hfr 1 1 3 1 W hb
  have frm : ∀ W, Below w.heap.size w W → Calls Tryd.prog 41 #[.int .i64 2, .int .i64 4, .int .i64 2, .int .i64 3] W fun e w' => e = .returned (.string (bs (encF 2 4 2 3).1)) ∧ Below W.heap.size W w' := fun W hb => hfr 2 4 2 3 W hb
  clear hfr
  generalize bs (encF 1 1 4 1).1 = Sa at *
  generalize bs (encF 3 3 99 0).1 = Sb at *
  generalize bs (encF 1 2 2 0).1 = Sc at *
  generalize bs (encF 1 2 3 0).1 = Sd at *
  generalize bs (encF 1 4 1 4).1 = Se at *
  generalize bs (encF 1 1 3 1).1 = Sh at *
  generalize bs (encF 2 4 2 3).1 = Sm at *
  generalize bs [] = Sz at *
  have HB := Lib.hid (Below.refl w.heap.size w)
  have hp2 := fun W => ports_sees 2 W
  have hp0 := fun W => ports_sees 0 W
  rw [ports2] at hp2
  rw [ports0] at hp0
  have hd24 : ∀ W, Calls Tryd.prog 19 #[.int .i64 24] W fun e w' => e = .returned (.tuple #[.int .i64 0, .int .i64 2]) ∧ W = w' := fun W => domain_bad 24 W (by omega)
  have hdk : ∀ k : Nat, k < 24 → ∀ W, Calls Tryd.prog 19 #[.int .i64 k] W fun e w' => e = .returned (.tuple #[.int .i64 (1 + (k : Int) / 8), .int .i64 0]) ∧ W = w' := fun k h W => domain_ok k W (by omega) (by omega)
  go_enter Tryd.func9, Tryd.ntmps9
  go_wp2
  go_loopw [1] (fun i wr => ∃ k : Nat, k ≤ 24 ∧ i = .int .i64 k ∧ wr = w) (fun i _ => 24 - (intOf i).toNat)
  case atStart => exact ⟨0, by omega, rfl, rfl⟩
  case round =>
    obtain ⟨k, hk, rfl, rfl⟩ := hrel
    by_cases hlt : k < 24
    · have a1 : (k : Int) < 24 := by omega
      have a2 : (0 : Int) ≤ k := by omega
      have hdd := hdk k hlt
      have w1 : IntKind.i64.wrap (1 + (k : Int) / 8) = 1 + (k : Int) / 8 := IntWalk.i64_in _ (by omega)
      clear hdk hd24 hp0 hp2 frh frm fra frb frc frd fre hco hd1 hd2 hfour hju haw
      go_wp2_with (first
        | (go_at_call 19; refine (hdd _).mono ?_; rintro e w1 ⟨rfl, rfl⟩)
        | fail)
      go_roundw
      case rel => exact ⟨k + 1, by omega, by go_num, by trivial⟩
      case measure => simp [intOf]; omega
    · obtain rfl : k = 24 := by omega
      clear hdk
      go_upto_region 8 with (first
        | (go_at_call 19; refine (hd24 _).mono ?_; rintro e w1 ⟨rfl, rfl⟩)
        | fail)
      go_upto_region 9 with (first
        | (go_at_call 20; refine (hp2 _).mono ?_; rintro e w1 ⟨v1, rfl, hs1, hb1⟩; replace HB := Lib.hid (HB.out.trans (hb1.mono HB.out.size)); have S1 := Lib.hid hs1; clear hs1 hb1)
        | fail)
      go_upto_region 10 with (first
        | (go_at_call 20; refine (hp0 _).mono ?_; rintro e w2 ⟨v2, rfl, -, hb1⟩; replace HB := Lib.hid (HB.out.trans (hb1.mono HB.out.size)); replace S1 := Lib.hid (S1.out.block hb1); clear hb1)
        | fail)
      clear hp2 hp0 hd24
      go_upto_region 13 with (first
        | (go_at_call 30; refine (sameInts_sees (S1.out.block (below_alloc _ _)) (builtI_sees _ [8, 9, 10, 11, 12, 13, 14, 15] 8) (by decide)).mono ?_; rintro e w3 ⟨rfl, hb1⟩; replace HB := Lib.hid ((HB.out.alloc HB.out.size _).trans (hb1.mono (HB.out.alloc HB.out.size _).size)); clear hb1)
        | fail)
      clear S1
      go_upto_region 13 with fail
      have HBv := Lib.hid (HB.out.alloc HB.out.size (.cells #[.int .i64 0, .int .i64 0, .int .i64 0] 43))
      have HN := Lib.hid (Bl.new w3 #[.int .i64 0, .int .i64 0, .int .i64 0] 43)
      generalize w3.alloc (.cells #[.int .i64 0, .int .i64 0, .int .i64 0] 43) = W at *
      generalize w3.heap.size = A at *
      have HBw : ∀ d os, _ := fun d os => HBv.out.trans ((below_regrown W d os).mono HBv.out.size)
      have k0 : ∀ d os, (grow (redrawn W d) os).cell? ⟨A, 0, none⟩ = some (.int .i64 0) := fun d os => cell_regrown (by rw [HN.out.cell]; rfl) d os
      have k1 : ∀ d os, (grow (redrawn W d) os).cell? ⟨A, 1, none⟩ = some (.int .i64 0) := fun d os => cell_regrown (by rw [HN.out.cell]; rfl) d os
      have k2 : ∀ d os, (grow (redrawn W d) os).cell? ⟨A, 2, none⟩ = some (.int .i64 0) := fun d os => cell_regrown (by rw [HN.out.cell]; rfl) d os
      have c41a : ∀ d os, _ := fun d os => Calls.regrown_of (fra (grow (redrawn W d) os) (HBw d os))
      have c41b : ∀ d os, _ := fun d os => Calls.regrown_of (frb (grow (redrawn W d) os) (HBw d os))
      have c41c : ∀ d os, _ := fun d os => Calls.regrown_of (frc (grow (redrawn W d) os) (HBw d os))
      have c41d : ∀ d os, _ := fun d os => Calls.regrown_of (frd (grow (redrawn W d) os) (HBw d os))
      have c41e : ∀ d os, _ := fun d os => Calls.regrown_of (fre (grow (redrawn W d) os) (HBw d os))
      have c26a : ∀ d os, _ := fun d os => Calls.regrown_of (hju 8 0 0 0 6 Sa (grow (redrawn W d) os) (HBw d os) qa.out ra.out)
      have c26b : ∀ d os, _ := fun d os => Calls.regrown_of (hju 16 3 99 0 0 Sb (grow (redrawn W d) os) (HBw d os) qb.out rb.out)
      have c26c : ∀ d os, _ := fun d os => Calls.regrown_of (hju 0 2 2 0 0 Sc (grow (redrawn W d) os) (HBw d os) qc.out rc.out)
      have c26d : ∀ d os, _ := fun d os => Calls.regrown_of (hju 0 0 0 0 6 Sd (grow (redrawn W d) os) (HBw d os) qd.out rd.out)
      have c26e : ∀ d os, _ := fun d os => Calls.regrown_of (hju 0 0 0 0 6 Se (grow (redrawn W d) os) (HBw d os) qe.out re.out)
      have c26f : ∀ d os, _ := fun d os => Calls.regrown_of (hju 0 0 0 0 6 ⟨#[]⟩ (grow (redrawn W d) os) (HBw d os) (by decide) rf.out)
      clear HBw
      refine wp_region_quiet_below (by kernel_rfl) (by kernel_rfl) ?_
      repeat (quiet_step (first | (go_at_call 41; first | with_reducible exact c41a _ _ | with_reducible exact c41b _ _ | with_reducible exact c41c _ _ | with_reducible exact c41d _ _ | with_reducible exact c41e _ _) | (go_at_call 26; first | with_reducible exact c26a _ _ | with_reducible exact c26b _ _ | with_reducible exact c26c _ _ | with_reducible exact c26d _ _ | with_reducible exact c26e _ _ | with_reducible exact c26f _ _)))
      clear k0 k1 k2 c41a c41b c41c c41d c41e c26a c26b c26c c26d c26e c26f
      refine wpQuiet_nil ?_
      intro _ hw'
      obtain ⟨⟨dq, osq⟩, hw''⟩ := hw'
      subst hw''
      dsimp only
      replace HB := Lib.hid (HBv.out.trans ((below_regrown W dq osq).mono HBv.out.size))
      clear HBv HN
      generalize grow (redrawn W dq) osq = W1 at *
      go_upto_region 16 with (first
        | (go_at_call 24; refine (hfour _).mono ?_; rintro e w4 ⟨rfl, hb1⟩; replace HB := Lib.hid (HB.out.trans (hb1.mono HB.out.size)); clear hb1)
        | (go_at_call 23; refine (hd1 _ HB.out).mono ?_; rintro e w4 ⟨rfl, hb1⟩; replace HB := Lib.hid (HB.out.trans (hb1.mono HB.out.size)); clear hb1)
        | fail)
      clear hd1
      go_upto_region 17 with (first
        | (go_at_call 24; refine (hfour _).mono ?_; rintro e w5 ⟨rfl, hb1⟩; replace HB := Lib.hid (HB.out.trans (hb1.mono HB.out.size)); clear hb1)
        | (go_at_call 23; refine (hd2 _ HB.out).mono ?_; rintro e w5 ⟨rfl, hb1⟩; replace HB := Lib.hid (HB.out.trans (hb1.mono HB.out.size)); clear hb1)
        | fail)
      clear hd2
      go_upto_region 18 with (first
        | (go_at_call 41; refine (frh _ HB.out).mono ?_; rintro e w6 ⟨rfl, hb1⟩; replace HB := Lib.hid (HB.out.trans (hb1.mono HB.out.size)); clear hb1)
        | fail)
      clear frh
      go_upto_region 19 with (first
        | (go_at_call 24; refine (hfour _).mono ?_; rintro e w7 ⟨rfl, hb1⟩; replace HB := Lib.hid (HB.out.trans (hb1.mono HB.out.size)); clear hb1)
        | (go_at_call 38; refine (hco _ _ (HB.out.alloc HB.out.size _) (builtE_sees _ (knownE Sh) 4)).mono ?_; rintro e w8 ⟨va, rfl, hs1, hb1⟩; replace HB := Lib.hid ((HB.out.alloc HB.out.size _).trans (hb1.mono (HB.out.alloc HB.out.size _).size)); have S1 := Lib.hid hs1; clear hb1 hs1)
        | fail)
      clear hco
      go_wp2_with (first
        | (go_at_call 41; refine (frm _ HB.out).mono ?_; rintro e w9 ⟨rfl, hb1⟩; replace HB := Lib.hid (HB.out.trans (hb1.mono HB.out.size)); replace S1 := Lib.hid (S1.out.block hb1); clear hb1)
        | (go_at_call 30; refine (sameInts_sees (S1.out.block (below_alloc _ _)) (builtI_sees _ [0, 5, 6] 3) (by decide)).mono ?_; rintro e w10 ⟨rfl, hb1⟩; replace HB := Lib.hid ((HB.out.alloc HB.out.size _).trans (hb1.mono (HB.out.alloc HB.out.size _).size)); clear hb1)
        | (go_at_call 22; refine (haw _ HB.out).mono ?_; rintro e w11 ⟨rfl, hb1⟩; replace HB := Lib.hid (HB.out.trans (hb1.mono HB.out.size)); clear hb1)
        | fail)
      go_ret
      exact ⟨by first | rfl | trivial, HB.out⟩
end Go.Proofs.YtaipifjmkbcjjaaDoor
