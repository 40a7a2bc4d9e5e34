/- Walks: WireWrites. -/
import Derived.Test.YtaipifjmkbcjjaaDoorOj
import Derived.Test.YtaipifjmkbcjjaaDoorFi
import Derived.Test.YtaipifjmkbcjjaaDoorAw
import Derived.Laws.AppendOwnNone
import Derived.Lib.QuietBelow
import Derived.Deep.CutRange
namespace Go.Proofs.YtaipifjmkbcjjaaDoor
open Go.RowKit Go.Sort

theorem flat_oneC (fs : List Fr) : ∀ u ∈ flat fs, u.oneCell' = true := by
  intro u hu
  unfold flat at hu
  rw [List.mem_flatMap] at hu
  obtain ⟨f, -, hf⟩ := hu
  simp at hf
  rcases hf with rfl | rfl | rfl | rfl <;> rfl

set_option maxRecDepth 100000 in
set_option maxHeartbeats 1500000 in
theorem WireWrites_any (f : Fr) (v : Value) (fs : List Fr) (w : World) (hg : Glob w) (S : SeesF w v fs) (hv : v = .slice none 0 0 ∨ ∃ x n cap, v = .slice (some x) n cap) :
    Calls Tryd.prog 17 #[f.v, v] w fun e w' => e = .returned (.bool true) ∧ Below w.heap.size w w' := by
  obtain ⟨i0, hi, hz0, hz1, hz2⟩ := info_parts Tr.info68
  have haw : ∀ W, Below w.heap.size w W → Calls Tryd.prog 42 #[] W _ := fun W hb => awake06 W (hg.next hb)
  have HS := Lib.hid S
  obtain ⟨ao, cap, hvv, -⟩ := S
  obtain ⟨n, hn⟩ : ∃ n, fs.length = n := ⟨_, rfl⟩
  have HN := Lib.hid hn
  rw [hn] at hvv
  have HB0 := Lib.hid (Below.refl w.heap.size w)
  have HBx := Lib.hid (below_alloc w (.cells f.c 68))
  by_cases h30 : (30 : Int) < (n : Int)
  · have h30' : decide ((30 : Int) < (n : Int)) = true := by simpa using h30
    clear h30 hn HN HS hv
    subst hvv
    go_enter Tryd.func17, Tryd.ntmps17
    go_wp2_with (first
      | (go_at_call 42; refine (haw _ HBx.out).mono ?_; rintro e w6 ⟨rfl, hb6⟩; have HB6 := Lib.hid (HBx.out.trans (hb6.mono HBx.out.size)); clear hb6)
      | fail)
    go_ret
    exact ⟨by first | rfl | trivial, HB6.out⟩
  have h30' : decide ((30 : Int) < (n : Int)) = false := by simpa using h30
  have hn30 : n ≤ 30 := by omega
  have hen : ∀ W, Below w.heap.size w W → Calls Tryd.prog 48 #[f.v] W _ := fun W hb => encode_any f.t f.k f.a f.b W (hg.next hb)
  have hle : ∀ W, Below w.heap.size w W → Calls Tryd.prog 51 #[f.v] W _ := fun W hb => length_any f.t f.k f.a f.b W (hg.next hb)
  have hck : ∀ W, Calls Tryd.prog 54 #[f.v] W _ := fun W => check_any f.t f.k f.a f.b W
  have hrc : ∀ W, Calls Tryd.prog 59 #[f.v] W _ := fun W => refCheck_any f.t f.k f.a f.b W
  have hre : ∀ W, Calls Tryd.prog 57 #[f.v] W _ := fun W => refEncode_any f.t f.k f.a f.b W
  have hrl : ∀ W, Calls Tryd.prog 58 #[f.v] W _ := fun W => refLength_any f.t f.k f.a f.b W
  have hse : ∀ W, Below w.heap.size w W → ∃ H : SeesF W v fs, True := fun W hb => ⟨HS.out.block hb, trivial⟩
  have hoj : ∀ W, Below w.heap.size w W → Calls Tryd.prog 60 #[v] W _ := fun W hb => ojoin_sees (HS.out.block hb) (by omega)
  obtain ⟨E1, hE1⟩ : ∃ E1, bs (encF f.t f.k f.a f.b).1 = E1 := ⟨_, rfl⟩
  obtain ⟨E2, hE2⟩ : ∃ E2, (encF f.t f.k f.a f.b).2 = E2 := ⟨_, rfl⟩
  obtain ⟨E3, hE3⟩ : ∃ E3, (encF f.t f.k f.a f.b).1.length = E3 := ⟨_, rfl⟩
  obtain ⟨E4, hE4⟩ : ∃ E4, chk f.t f.k f.a f.b = E4 := ⟨_, rfl⟩
  obtain ⟨J1, hJ1⟩ : ∃ J1, bs (joinS fs).1 = J1 := ⟨_, rfl⟩
  obtain ⟨J2, hJ2⟩ : ∃ J2, (joinS fs).2 = J2 := ⟨_, rfl⟩
  rw [hE1, hE2] at hen
  rw [hE3, hE2] at hle
  rw [hE4] at hck hrc
  simp only [hE1, hE2] at hre
  simp only [hE3, hE2] at hrl
  rw [hJ1, hJ2] at hoj
  clear hE1 hE2 hE3 hE4 h30 hse
  obtain ⟨y1, y2, y3, y4⟩ := f
  have HF := Lib.hid (Bl.new w (Fr.c ⟨y1, y2, y3, y4⟩) 68)
  have hF := HF.out.cell
  have HJ1 := Lib.hid hJ1
  have HJ2 := Lib.hid hJ2
  clear hJ1 hJ2 hn
  subst hvv
  have HV := Lib.hid hv
  clear hv
  go_enter Tryd.func17, Tryd.ntmps17
  go_upto_region 7 with (first
    | (go_at_call 48; refine (hen _ HBx.out).mono ?_; rintro e w1 ⟨rfl, hb1⟩; replace HBx := Lib.hid (HBx.out.trans (hb1.mono HBx.out.size)); replace HF := Lib.hid (HF.out.below hb1 HF.out.lt); clear hF; have hF := HF.out.cell; clear hb1)
    | (go_at_call 57; refine (hre _).mono ?_; rintro e w2 ⟨rfl, hb1⟩; replace HBx := Lib.hid (HBx.out.trans (hb1.mono HBx.out.size)); replace HF := Lib.hid (HF.out.below hb1 HF.out.lt); clear hF; have hF := HF.out.cell; clear hb1)
    | (go_at_call 51; refine (hle _ HBx.out).mono ?_; rintro e w3 ⟨rfl, hb1⟩; replace HBx := Lib.hid (HBx.out.trans (hb1.mono HBx.out.size)); replace HF := Lib.hid (HF.out.below hb1 HF.out.lt); clear hF; have hF := HF.out.cell; clear hb1)
    | (go_at_call 58; refine (hrl _).mono ?_; rintro e w4 ⟨rfl, hb1⟩; replace HBx := Lib.hid (HBx.out.trans (hb1.mono HBx.out.size)); replace HF := Lib.hid (HF.out.below hb1 HF.out.lt); clear hF; have hF := HF.out.cell; clear hb1)
    | fail)
  clear hen hle hre hrl hF
  have hF := HF.out.cell
  generalize w.heap.size = A at HF hF
  have k0 : ∀ d os, (grow (redrawn w4 d) os).cell? ⟨A, 0, none⟩ = some (.int .i64 y1) := fun d os => cell_regrown (by rw [hF]; rfl) d os
  have k1 : ∀ d os, (grow (redrawn w4 d) os).cell? ⟨A, 1, none⟩ = some (.int .i64 y2) := fun d os => cell_regrown (by rw [hF]; rfl) d os
  have k2 : ∀ d os, (grow (redrawn w4 d) os).cell? ⟨A, 2, none⟩ = some (.int .i64 y3) := fun d os => cell_regrown (by rw [hF]; rfl) d os
  have k3 : ∀ d os, (grow (redrawn w4 d) os).cell? ⟨A, 3, none⟩ = some (.int .i64 y4) := fun d os => cell_regrown (by rw [hF]; rfl) d os
  have c54 : ∀ d os, _ := fun d os => Calls.regrown_of (hck (grow (redrawn w4 d) os))
  have c59 : ∀ d os, _ := fun d os => Calls.regrown_of (hrc (grow (redrawn w4 d) os))
  refine wp_region_quiet_below (by kernel_rfl) (by kernel_rfl) ?_
  repeat (quiet_step (first | (go_at_call 54; exact c54 _ _) | (go_at_call 59; exact c59 _ _)))
  clear k0 k1 k2 k3 c54 c59 hF hck hrc
  refine wpQuiet_nil ?_
  intro _ hw'
  obtain ⟨⟨dq, osq⟩, hw''⟩ := hw'
  subst hw''
  dsimp only
  replace HBx := Lib.hid (HBx.out.trans ((below_regrown w4 dq osq).mono HBx.out.size))
  clear HF
  generalize grow (redrawn w4 dq) osq = W at *
  have hml : fs.length ≤ maxLen := by have := HN.out; unfold maxLen; omega
  have hm3 : fs.length ≤ 1000 := by have := HN.out; omega
  have hjx : ∀ (v : Value) W, Below w.heap.size w W → SeesF W v fs → Calls Tryd.prog 56 #[v] W fun e w' => e = .returned (.tuple #[.string J1, .int .i64 J2]) ∧ Below W.heap.size W w' := fun v W hb hs => by
    have h := join_sees hs hm3 (hg.next hb)
    rw [HJ1.out, HJ2.out] at h; exact h
  have HBa := Lib.hid (HBx.out.alloc HBx.out.size (.cells #[] 68))
  have HSa := Lib.hid (HS.out.block (HBx.out.alloc HBx.out.size (.cells #[] 68)))
  have fin : ∀ (vx : Value) (W6 : World), Below w.heap.size w W6 → W6.ownsRow W.heap.size 68 4 vx fs.length (flat fs) → True := fun _ _ _ _ => trivial
  rcases HV.out with h | ⟨x, n', cap', h⟩
  · simp only [Value.slice.injEq] at h
    obtain ⟨rfl, rfl, rfl⟩ := h
    have hfs : fs = [] := List.eq_nil_of_length_eq_zero HN.out
    have HO : Hid ((W.alloc (.cells #[] 68)).ownsRow W.heap.size 68 4 (.slice (some ⟨W.heap.size, 0, none⟩) 0 0) fs.length (flat fs)) := by
      show World.ownsRow _ _ _ _ _ _ _
      rw [hfs]
      exact World.ownsRow_made W #[] 0 (Nat.le_refl _) (by decide) (by simp)
    clear HV hfs fin
    go_wp2_with (first
      | (at_builtin; refine wpList_append_own_none rfl _ _ 74 rfl W.heap.size 68 i0 4 Tryd.underlying74 hi (.slice (some ⟨W.heap.size, 0, none⟩) 0 0) 0 [] rfl (World.ownsRow_made W #[] 0 (Nat.le_refl _) (by decide) (by simp)) rfl ?_)
      | (go_at_call 56; refine (hjx _ _ HBa.out (own_sees HO.out)).mono ?_; rintro e w5 ⟨rfl, hb1⟩; have HB5 := Lib.hid (HBa.out.trans (hb1.mono HBa.out.size)); replace HO := Lib.hid (HO.out.kept (grown_below (r := none) hb1) (by simp [Value.ownBlock])); clear hb1)
      | (go_at_call 60; refine (hoj _ HB5.out).mono ?_; rintro e w6 ⟨rfl, hb1⟩; have HB6 := Lib.hid (HB5.out.trans (hb1.mono HB5.out.size)); replace HO := Lib.hid (HO.out.kept (grown_below (r := none) hb1) (by simp [Value.ownBlock])); clear hb1)
      | (go_at_call 47; refine (sameFrames_sees (own_sees HO.out) (HS.out.block HB6.out) hml).mono ?_; rintro e w7 ⟨rfl, hb1⟩; have HB7 := Lib.hid (HB6.out.trans (hb1.mono HB6.out.size)); clear hb1)
      | (go_at_call 42; refine (haw _ HB7.out).mono ?_; rintro e w8 ⟨rfl, hb1⟩; have HB8 := Lib.hid (HB7.out.trans (hb1.mono HB7.out.size)); clear hb1)
      | fail)
    refine bodyPost_ret (v := .bool true) ?_ rfl ⟨rfl, HB8.out⟩
    simp [results, Tryd.results17, go_sem]
  · simp only [Value.slice.injEq] at h
    obtain ⟨rfl, rfl, rfl⟩ := h
    obtain ⟨hnl, hcells⟩ := flat_cells HSa.out rfl
    have HCL := Lib.hid hcells
    have HNL := Lib.hid hnl
    clear HV fin hcells hnl
    go_wp2_with (first
      | (at_builtin; refine wpList_append_own _ rfl _ _ 74 rfl W.heap.size 68 i0 fr0.v 4 32 Tryd.underlying74 hi hz0 hz1 hz2 rfl (by decide) (.slice (some ⟨W.heap.size, 0, none⟩) 0 0) 0 [] rfl (World.ownsRow_made W #[] 0 (Nat.le_refl _) (by decide) (by simp)) x n cap (flat fs) rfl (by rw [flat_len, ← HNL.out]) HCL.out (flat_oneC fs) (by unfold maxLen; omega) (by omega) (by simp) ?_; intro v' w5 hown' hgrow _; have HO : Hid (w5.ownsRow W.heap.size 68 4 v' fs.length (flat fs)) := (by show World.ownsRow _ _ _ _ _ _ _; rw [← HNL.out]; simpa using hown'); have HB4 := Lib.hid (HBa.out.grown hgrow HBa.out.size (fun k e => by cases e; exact HBx.out.size)); clear hown' hgrow)
      | (go_at_call 56; refine (hjx _ _ HB4.out (own_sees HO.out)).mono ?_; rintro e w5 ⟨rfl, hb1⟩; have HB5 := Lib.hid (HB4.out.trans (hb1.mono HB4.out.size)); replace HO := Lib.hid (HO.out.kept (grown_below (r := none) hb1) (by cases v'.ownBlock <;> simp)); clear hb1)
      | (go_at_call 60; refine (hoj _ HB5.out).mono ?_; rintro e w6 ⟨rfl, hb1⟩; have HB6 := Lib.hid (HB5.out.trans (hb1.mono HB5.out.size)); replace HO := Lib.hid (HO.out.kept (grown_below (r := none) hb1) (by cases v'.ownBlock <;> simp)); clear hb1)
      | (go_at_call 47; refine (sameFrames_sees (own_sees HO.out) (HS.out.block HB6.out) hml).mono ?_; rintro e w7 ⟨rfl, hb1⟩; have HB7 := Lib.hid (HB6.out.trans (hb1.mono HB6.out.size)); clear hb1)
      | (go_at_call 42; refine (haw _ HB7.out).mono ?_; rintro e w8 ⟨rfl, hb1⟩; have HB8 := Lib.hid (HB7.out.trans (hb1.mono HB7.out.size)); clear hb1)
      | fail)
    go_ret
    exact ⟨by first | rfl | trivial, HB8.out⟩
end Go.Proofs.YtaipifjmkbcjjaaDoor
