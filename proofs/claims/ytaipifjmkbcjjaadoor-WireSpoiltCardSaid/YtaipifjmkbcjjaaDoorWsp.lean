/- Walks: WireSpoilt. -/
import Derived.Test.YtaipifjmkbcjjaaDoorMk
import Derived.Deep.RegionHeld3
import Derived.Deep.CutRange
namespace Go.Proofs.YtaipifjmkbcjjaaDoor
open Go.RowKit Go.Sort

theorem belowA {w W : World} {o : Obj} (h : Below w.heap.size w W) : Below w.heap.size w (W.alloc o) := h.alloc h.size o
theorem belowD {w W : World} (h : Below w.heap.size w W) : Below w.heap.size w W.drew := h.drew
theorem belowC {w W : World} {a : Addr} {v : Value} (h : Below w.heap.size w W) (ha : w.heap.size ≤ a.block) : Below w.heap.size w (W.setCell a v) := h.setCell ha v

theorem size_drew (w : World) : w.drew.heap.size = w.heap.size := rfl
theorem blNew {P : World} {g : Nat} {c : Array Value} {t : TypeId} (h : P.heap.size = g) : Bl g c t (P.alloc (.cells c t)) := by subst h; exact Bl.new P c t
theorem blD {W : World} {g : Nat} {c : Array Value} {t : TypeId} (h : Bl g c t W) : Bl g c t W.drew := h

theorem cs_same {W : World} {g o : Nat} {v u : Value} (h : W.cell? ⟨g, o, none⟩ = some u) : (W.setCell ⟨g, o, none⟩ v).cell? ⟨g, o, none⟩ = some v :=
  World.cell?_setCell_same W _ v h
theorem cs_other {W : World} {g o g' o' : Nat} {v u : Value} (hne : ¬ (g' = g ∧ o' = o)) (h : W.cell? ⟨g, o, none⟩ = some u) : (W.setCell ⟨g', o', none⟩ v).cell? ⟨g, o, none⟩ = some u :=
  (World.cell?_setCell_other W _ _ v (fun e => hne (by cases e; exact ⟨rfl, rfl⟩))).trans h
theorem ca_new {W : World} {c : Array Value} {t : TypeId} {g o : Nat} {u : Value} (hs : W.heap.size = g) (h : c[o]? = some u) : (W.alloc (.cells c t)).cell? ⟨g, o, none⟩ = some u := by
  subst hs; rw [(Bl.new W c t).cell]; exact h
theorem cell_drew {W : World} {a : Addr} {u : Value} (h : W.cell? a = some u) : W.drew.cell? a = some u := h

attribute [local go_sem] bs_size bs_append

set_option maxRecDepth 100000 in
set_option maxHeartbeats 8000000 in
theorem WireSpoilt_any (n at' by' : Int) (w : World) (hg : Glob w) :
    Calls Tryd.prog 13 #[.int .i64 n, .int .i64 at', .int .i64 by'] w fun e w' => e = .returned (.bool true) ∧ Below w.heap.size w w' := by
  have hma := made_of n
  generalize n % 16777216 = m at *
  have hln := madeL_len m
  have hok := madeM_ok m
  have hsb := Lib.hid (madeL_spoilt m)
  have hen : ∀ W, Below w.heap.size w W → Calls Tryd.prog 48 #[(madeM m).v] W fun e w' => e = .returned (.tuple #[.string (bs (madeL m)), .int .i64 0]) ∧ Below W.heap.size W w' := fun W hb => encode_ok _ _ _ _ W hok (hg.next hb)
  have haw : ∀ W, Below w.heap.size w W → Calls Tryd.prog 42 #[] W _ := fun W hb => awake06 W (hg.next hb)
  clear hok
  obtain ⟨t, k, a, b, hf⟩ : ∃ t k a b, madeM m = ⟨t, k, a, b⟩ := ⟨_, _, _, _, rfl⟩
  rw [hf] at hma hen
  clear hf
  generalize madeL m = L at *
  have hsz : (bs L).size = L.length := bs_size L
  obtain ⟨s, hs⟩ : ∃ s, bs L = s := ⟨_, rfl⟩
  have HS := Lib.hid hs
  rw [hs] at hen hsz
  clear hs
  obtain ⟨N, hN⟩ : ∃ N, L.length = N := ⟨_, rfl⟩
  have HN := Lib.hid hN
  rw [hN] at hsz hln
  clear hN
  have hmk : ∀ W, Calls Tryd.prog 18 #[.int .i64 at', .int .i64 N] W fun e w' => e = .returned (.int .i64 (at' % N)) ∧ W = w' := fun W => mod_any at' N W (by omega) (by omega)
  have hk0 := Int.emod_nonneg at' (show (N : Int) ≠ 0 by omega)
  have hk1 := Int.emod_lt_of_pos at' (show (0 : Int) < N by omega)
  obtain ⟨j, hj⟩ : ∃ j : Nat, at' % N = (j : Int) := ⟨(at' % N).toNat, by omega⟩
  rw [hj] at hmk hk0 hk1
  clear hj
  have hmb : ∀ W, Calls Tryd.prog 18 #[.int .i64 by', .int .i64 255] W fun e w' => e = .returned (.int .i64 (by' % 255)) ∧ W = w' := fun W => mod_any by' 255 W (by decide) (by decide)
  have hr0 := Int.emod_nonneg by' (show (255 : Int) ≠ 0 by decide)
  have hr1 := Int.emod_lt_of_pos by' (show (0 : Int) < 255 by decide)
  generalize by' % 255 = r at *
  have hsm : N ≤ 12 := by omega
  have HB0 := Lib.hid (Below.refl w.heap.size w)
  go_enter Tryd.func13, Tryd.ntmps13
  go_upto_region 4 with (first
    | (go_at_call 49; refine (hma _).mono ?_; rintro e w1 ⟨rfl, hb1⟩; have HB1 := Lib.hid (HB0.out.trans hb1); clear hb1)
    | (go_at_call 48; refine (hen _ HB1.out).mono ?_; rintro e w3 ⟨rfl, hb2⟩; have HB3 := Lib.hid (HB1.out.trans (hb2.mono HB1.out.size)); clear hb2)
    | fail)
  clear hen hma
  go_upto_region 5 with (go_at_call 18; refine (hmk _).mono ?_; rintro e w4 ⟨rfl, rfl⟩)
  clear hmk
  have hlt : j < s.size := by rw [hsz]; omega
  go_quiet ((go_at_call 18; exact q_same (hmb _)))
  obtain ⟨x, hx, hne⟩ : ∃ x, bits BinOp.xor IntKind.u8 ((s[j]'hlt).toNat : Int) (1 + r) = bn x ∧ L.getD j 0 ≠ x := ⟨s[j] ^^^ UInt8.ofNat (1 + r).toNat, by
    rw [← xor_B]; congr 1
    unfold bn
    rw [UInt8.toNat_ofNat']
    omega, by
    have e1 : L.getD j 0 = s[j] := by
      have := byte_at s j hlt
      have e2 : s.data.toList = L := by rw [← HS.out, bs_list]
      rw [e2] at this; exact this
    rw [e1]
    intro e
    have h0 : UInt8.ofNat (1 + r).toNat = 0 := by
      have h1 : s[j] ^^^ 0 = s[j] ^^^ UInt8.ofNat (1 + r).toNat := by rw [UInt8.xor_zero]; exact e
      exact (xor_inj_left h1).symm
    have h2 := congrArg UInt8.toNat h0
    rw [UInt8.toNat_ofNat'] at h2
    simp at h2
    omega⟩
  simp only [hx]
  have HB4 : Hid (Below w.heap.size w (w3.drewN nq)) := by show _; exact HB3.out.trans (Below.mono ⟨rfl, rfl, rfl, Nat.le_refl _, fun _ _ => rfl⟩ (Nat.le_refl _))
  generalize w3.drewN nq = w4 at *
  have hcv : ∀ (W : World) (g : Nat), W.cell? ⟨g, 0, none⟩ = some (.int .u8 (bn x)) → (convert 46 9 (.slice (some ⟨g, 0, none⟩) 1 1)).run Tryd.prog W.drew = .ok (.string (bs [x])) W.drew := fun W g hc =>
    run_convert_bytes_back (e := 5) (l := [x]) (cap := 1) _ 46 9 _ (by kernel_rfl) (by kernel_rfl) (by kernel_rfl) (fun i hi => by
      have : i = 0 := by simpa using hi
      subst this
      have hc' : W.drew.cell? ⟨g, 0, none⟩ = some (.int .u8 (bn x)) := hc
      simp [Addr.add, hc', bn])
  obtain ⟨U, hU⟩ : ∃ U, L.take j = U := ⟨_, rfl⟩
  obtain ⟨T, hT⟩ : ∃ T, L.drop (j + 1) = T := ⟨_, rfl⟩
  have hUl : U.length = j := by rw [← hU, List.length_take, HN.out]; omega
  have hTl : T.length = N - (j + 1) := by rw [← hT, List.length_drop, HN.out]
  have e1 : s.extract 0 j = bs U := by
    rw [← HS.out, ← hU]; apply ByteArray.ext; apply Array.ext'; rw [extract_list, bs_list, bs_list]; simp
  have e2 : s.extract (j + 1) N = bs T := by
    rw [← HS.out, ← hT]; apply ByteArray.ext; apply Array.ext'; rw [extract_list, bs_list, bs_list, List.take_of_length_le]; simp [HN.out]
  obtain ⟨d, hd, hder⟩ : ∃ d, decS (bs (U ++ x :: T)).data.toList = d ∧ (d.er != 0) = true := ⟨_, rfl, by
    have h1 := hsb.out j (by rw [HN.out]; omega) x hne
    unfold spoilt at h1
    rw [hU, hT] at h1
    rw [bs_list]; simpa using h1⟩
  have hde : ∀ W, Below w.heap.size w W → Calls Tryd.prog 43 #[.string (bs (U ++ x :: T))] W fun e w' => e = .returned (.tuple #[.agg #[.int .i64 d.t, .int .i64 d.k, .int .i64 d.a, .int .i64 d.b], .agg #[.int .i64 d.er, .int .i64 d.at']]) ∧ Below W.heap.size W w' := fun W hb =>
    decode_fields _ W (by rw [bs_size]; simp [hUl, hTl, maxLen]; omega) (hg.next hb) d hd
  clear hd
  generalize d.t = d1 at *
  generalize d.k = d2 at *
  generalize d.a = d3 at *
  generalize d.b = d4 at *
  generalize d.er = d5 at *
  generalize d.at' = d6 at *
  have HU := Lib.hid hU
  have HT := Lib.hid hT
  clear hU hT hne hx
  go_upto_region 6 with fail
  have b1 : (0 : Int) ≤ (j : Int) := by omega
  have b2 : (j : Int) ≤ (N : Int) := by omega
  have b3 : (0 : Int) ≤ (j : Int) + 1 := by omega
  have b4 : (j : Int) + 1 ≤ (N : Int) := by omega
  have b5 : IntKind.i64.wrap ((j : Int) + 1) = (j : Int) + 1 := IntWalk.i64_in _ (by omega)
  clear hr0 hr1
  have n6 : ¬ 9223372036854775807 < j + 1 := by omega
  have n11 : ¬ 9223372036854775807 < j + 1 + (N - (j + 1)) := by omega
  have hb0 : ∀ (P : World), (P.alloc (.cells #[.int .u8 (bn x)] 5)).cell? ⟨P.heap.size, 0, none⟩ = some (.int .u8 (bn x)) := fun P => by simp
  have hcv0 := hcv (w4.alloc (.cells #[.int .u8 (bn x)] 5)) (w4.heap.size) (show (w4.alloc (.cells #[.int .u8 (bn x)] 5)).cell? ⟨w4.heap.size, 0, none⟩ = some (.int .u8 (bn x)) from by have h := hb0 w4; (try simp only [World.size_alloc] at h); exact h)
  have hcv1 := hcv ((w4.alloc (.cells #[.int .u8 (bn x)] 5)).alloc (.cells #[.int .i64 0, .int .i64 0, .int .i64 0, .int .i64 0] 68)) (w4.heap.size) (cell_alloc_old (by simp only [World.size_alloc]; omega) (show (w4.alloc (.cells #[.int .u8 (bn x)] 5)).cell? ⟨w4.heap.size, 0, none⟩ = some (.int .u8 (bn x)) from by have h := hb0 w4; (try simp only [World.size_alloc] at h); exact h))
  have hcv2 := hcv ((w4.alloc (.cells #[.int .u8 (bn x)] 5)).alloc (.cells #[.int .i64 0, .int .i64 0] 70)) (w4.heap.size) (cell_alloc_old (by simp only [World.size_alloc]; omega) (show (w4.alloc (.cells #[.int .u8 (bn x)] 5)).cell? ⟨w4.heap.size, 0, none⟩ = some (.int .u8 (bn x)) from by have h := hb0 w4; (try simp only [World.size_alloc] at h); exact h))
  have hcv3 := hcv (((w4.alloc (.cells #[.int .u8 (bn x)] 5)).alloc (.cells #[.int .i64 0, .int .i64 0, .int .i64 0, .int .i64 0] 68)).alloc (.cells #[.int .i64 0, .int .i64 0] 70)) (w4.heap.size) (cell_alloc_old (by simp only [World.size_alloc]; omega) (cell_alloc_old (by simp only [World.size_alloc]; omega) (show (w4.alloc (.cells #[.int .u8 (bn x)] 5)).cell? ⟨w4.heap.size, 0, none⟩ = some (.int .u8 (bn x)) from by have h := hb0 w4; (try simp only [World.size_alloc] at h); exact h)))
  have hcv4 := hcv (((w4.alloc (.cells #[.int .u8 (bn x)] 5)).alloc (.cells #[.int .i64 0, .int .i64 0] 70)).alloc (.cells #[.int .i64 0, .int .i64 0, .int .i64 0, .int .i64 0] 68)) (w4.heap.size) (cell_alloc_old (by simp only [World.size_alloc]; omega) (cell_alloc_old (by simp only [World.size_alloc]; omega) (show (w4.alloc (.cells #[.int .u8 (bn x)] 5)).cell? ⟨w4.heap.size, 0, none⟩ = some (.int .u8 (bn x)) from by have h := hb0 w4; (try simp only [World.size_alloc] at h); exact h)))
  have hcv5 := hcv ((w4.alloc (.cells #[.int .i64 0, .int .i64 0, .int .i64 0, .int .i64 0] 68)).alloc (.cells #[.int .u8 (bn x)] 5)) (w4.heap.size + 1) (show ((w4.alloc (.cells #[.int .i64 0, .int .i64 0, .int .i64 0, .int .i64 0] 68)).alloc (.cells #[.int .u8 (bn x)] 5)).cell? ⟨w4.heap.size + 1, 0, none⟩ = some (.int .u8 (bn x)) from by have h := hb0 (w4.alloc (.cells #[.int .i64 0, .int .i64 0, .int .i64 0, .int .i64 0] 68)); (try simp only [World.size_alloc] at h); exact h)
  have hcv6 := hcv (((w4.alloc (.cells #[.int .i64 0, .int .i64 0, .int .i64 0, .int .i64 0] 68)).alloc (.cells #[.int .u8 (bn x)] 5)).alloc (.cells #[.int .i64 0, .int .i64 0] 70)) (w4.heap.size + 1) (cell_alloc_old (by simp only [World.size_alloc]; omega) (show ((w4.alloc (.cells #[.int .i64 0, .int .i64 0, .int .i64 0, .int .i64 0] 68)).alloc (.cells #[.int .u8 (bn x)] 5)).cell? ⟨w4.heap.size + 1, 0, none⟩ = some (.int .u8 (bn x)) from by have h := hb0 (w4.alloc (.cells #[.int .i64 0, .int .i64 0, .int .i64 0, .int .i64 0] 68)); (try simp only [World.size_alloc] at h); exact h))
  have hcv7 := hcv ((w4.alloc (.cells #[.int .i64 0, .int .i64 0] 70)).alloc (.cells #[.int .u8 (bn x)] 5)) (w4.heap.size + 1) (show ((w4.alloc (.cells #[.int .i64 0, .int .i64 0] 70)).alloc (.cells #[.int .u8 (bn x)] 5)).cell? ⟨w4.heap.size + 1, 0, none⟩ = some (.int .u8 (bn x)) from by have h := hb0 (w4.alloc (.cells #[.int .i64 0, .int .i64 0] 70)); (try simp only [World.size_alloc] at h); exact h)
  have hcv8 := hcv (((w4.alloc (.cells #[.int .i64 0, .int .i64 0] 70)).alloc (.cells #[.int .u8 (bn x)] 5)).alloc (.cells #[.int .i64 0, .int .i64 0, .int .i64 0, .int .i64 0] 68)) (w4.heap.size + 1) (cell_alloc_old (by simp only [World.size_alloc]; omega) (show ((w4.alloc (.cells #[.int .i64 0, .int .i64 0] 70)).alloc (.cells #[.int .u8 (bn x)] 5)).cell? ⟨w4.heap.size + 1, 0, none⟩ = some (.int .u8 (bn x)) from by have h := hb0 (w4.alloc (.cells #[.int .i64 0, .int .i64 0] 70)); (try simp only [World.size_alloc] at h); exact h))
  have hcv9 := hcv (((w4.alloc (.cells #[.int .i64 0, .int .i64 0, .int .i64 0, .int .i64 0] 68)).alloc (.cells #[.int .i64 0, .int .i64 0] 70)).alloc (.cells #[.int .u8 (bn x)] 5)) (w4.heap.size + 1 + 1) (show (((w4.alloc (.cells #[.int .i64 0, .int .i64 0, .int .i64 0, .int .i64 0] 68)).alloc (.cells #[.int .i64 0, .int .i64 0] 70)).alloc (.cells #[.int .u8 (bn x)] 5)).cell? ⟨w4.heap.size + 1 + 1, 0, none⟩ = some (.int .u8 (bn x)) from by have h := hb0 ((w4.alloc (.cells #[.int .i64 0, .int .i64 0, .int .i64 0, .int .i64 0] 68)).alloc (.cells #[.int .i64 0, .int .i64 0] 70)); (try simp only [World.size_alloc] at h); exact h)
  have hcv10 := hcv (((w4.alloc (.cells #[.int .i64 0, .int .i64 0] 70)).alloc (.cells #[.int .i64 0, .int .i64 0, .int .i64 0, .int .i64 0] 68)).alloc (.cells #[.int .u8 (bn x)] 5)) (w4.heap.size + 1 + 1) (show (((w4.alloc (.cells #[.int .i64 0, .int .i64 0] 70)).alloc (.cells #[.int .i64 0, .int .i64 0, .int .i64 0, .int .i64 0] 68)).alloc (.cells #[.int .u8 (bn x)] 5)).cell? ⟨w4.heap.size + 1 + 1, 0, none⟩ = some (.int .u8 (bn x)) from by have h := hb0 ((w4.alloc (.cells #[.int .i64 0, .int .i64 0] 70)).alloc (.cells #[.int .i64 0, .int .i64 0, .int .i64 0, .int .i64 0] 68)); (try simp only [World.size_alloc] at h); exact h)
  clear hb0
  clear hcv
  have HS4 := HB4.out.size
  go_cut [12] from 38 to 53 (fun p12 wx => ∃ A : Nat, p12 = .pointer (some ⟨A, 0, none⟩) ∧ wx.cell? ⟨A, 0, none⟩ = some (.int .i64 d5) ∧ Hid (Below w.heap.size w wx))
  case first J K' hJ hK =>
    go_region_held (fun _ => True) (trivial) (first | (go_at_call 43; refine (hde _ (by repeat (first | with_reducible exact HB4.out | with_reducible apply belowD | with_reducible apply belowA))).mono ?_; rintro e w5 ⟨rfl, hb5⟩; have HB5 : Hid (Below w.heap.size w w5) := Below.trans (by repeat (first | with_reducible exact HB4.out | with_reducible apply belowD | with_reducible apply belowA)) (hb5.mono (by simp only [size_drew, World.size_alloc]; omega)); have hs5 := hb5.size; simp only [size_drew, World.size_alloc] at hs5; try (have L0 : w4.heap.size < w5.heap.size := (by omega); have k0 := fun o => hb5.cell (p := ⟨w4.heap.size, o, none⟩) (by simp only [size_drew, World.size_alloc]; omega); have f0 := fun o => hb5.frozen (p := ⟨w4.heap.size, o, none⟩) (by simp only [size_drew, World.size_alloc]; omega); have N0 : ¬ w4.heap.size = w5.heap.size := (by omega); have M0 : ¬ w5.heap.size = w4.heap.size := (by omega); have P0 : ¬ w4.heap.size = w5.heap.size + 1 := (by omega); have Q0 : ¬ w5.heap.size + 1 = w4.heap.size := (by omega)); try (have L1 : w4.heap.size + 1 < w5.heap.size := (by omega); have k1 := fun o => hb5.cell (p := ⟨w4.heap.size + 1, o, none⟩) (by simp only [size_drew, World.size_alloc]; omega); have f1 := fun o => hb5.frozen (p := ⟨w4.heap.size + 1, o, none⟩) (by simp only [size_drew, World.size_alloc]; omega); have N1 : ¬ w4.heap.size + 1 = w5.heap.size := (by omega); have M1 : ¬ w5.heap.size = w4.heap.size + 1 := (by omega); have P1 : ¬ w4.heap.size + 1 = w5.heap.size + 1 := (by omega); have Q1 : ¬ w5.heap.size + 1 = w4.heap.size + 1 := (by omega)); try (have L2 : w4.heap.size + 1 + 1 < w5.heap.size := (by omega); have k2 := fun o => hb5.cell (p := ⟨w4.heap.size + 1 + 1, o, none⟩) (by simp only [size_drew, World.size_alloc]; omega); have f2 := fun o => hb5.frozen (p := ⟨w4.heap.size + 1 + 1, o, none⟩) (by simp only [size_drew, World.size_alloc]; omega); have N2 : ¬ w4.heap.size + 1 + 1 = w5.heap.size := (by omega); have M2 : ¬ w5.heap.size = w4.heap.size + 1 + 1 := (by omega); have P2 : ¬ w4.heap.size + 1 + 1 = w5.heap.size + 1 := (by omega); have Q2 : ¬ w5.heap.size + 1 = w4.heap.size + 1 + 1 := (by omega)); clear hb5))
    all_goals have HS5 := HB5.out.size
    all_goals refine hK _ _ (Met.intro (hJ _ _ ?_))
    all_goals repeat apply Exists.intro
    all_goals refine ⟨⟨?_, ?_, ?_⟩, rfl⟩
    all_goals try exact rfl
    all_goals refine ⟨?_, ?_⟩
    all_goals first
      | (show Below _ _ _; (repeat (first | with_reducible exact HB5.out | with_reducible apply belowA | with_reducible apply belowD | with_reducible refine belowC ?_ (by dsimp only; omega))); done)
      | ((repeat (first | (with_reducible refine ca_new ?_ rfl; first | with_reducible rfl | (simp; done)) | with_reducible refine cs_same (u := .int .i64 0) ?_ | with_reducible refine cs_other (by omega) ?_ | (with_reducible refine cell_alloc_old ?_ ?_; · first | (simp; done) | (simp; omega) | omega) | with_reducible refine (k0 0).trans (cell_drew ?_) | with_reducible refine (k1 0).trans (cell_drew ?_) | with_reducible refine (k2 0).trans (cell_drew ?_))); done)
      | (trace_state; sorry)
  case rest =>
    obtain ⟨A, rfl, hcl, HBx⟩ := hcut
    clear hcv0 hcv1 hcv2 hcv3 hcv4 hcv5 hcv6 hcv7 hcv8 hcv9 hcv10 hde
    go_wp2_with (first
      | (go_at_call 42; refine (haw _ HBx.out).mono ?_; rintro e w6 ⟨rfl, hb6⟩; have HB6 := Lib.hid (HBx.out.trans (hb6.mono HBx.out.size)); clear hb6)
      | fail)
    go_ret
    exact ⟨by first | rfl | trivial, HB6.out⟩
end Go.Proofs.YtaipifjmkbcjjaaDoor
