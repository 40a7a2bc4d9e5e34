/- PROVED HERE: at every configuration c and every list of entries l the law PortSplits returns true, in memory where the four listed package variables read as the program text lays them (the tied card pays for that condition); its arguments read behind the call as before. -/
import Derived.Test.YtaipifjmkbcjjaaDoorCards
import Derived.Test.YtaipifjmkbcjjaaDoorTie
import Derived.Test.YtaipifjmkbcjjaaDoorZX
import Derived.Test.YtaipifjmkbcjjaaDoorZQs
import Derived.Test.YtaipifjmkbcjjaaDoorZEo
import Derived.Test.YtaipifjmkbcjjaaDoorZCf
import Derived.SevenTiedAt
namespace Go.Proofs.YtaipifjmkbcjjaaDoor.portSplits
open Go.ChangeShapes Go.WideShapes Go.ChangeAt Go.RowKit
open Go.ChangeMaps (open_string shut_string)

theorem laidOut : laidOutB Tryd.prog = true := by kernel_rfl
set_option maxRecDepth 100000 in
theorem lifted (os : Os) (started : os.Started) (H : Type) (enc : TypeId × Value → H) :
    ReturnsInHanded {} Tryd.checked os 7 .any (fun w args => (Rows.portSplitsSpec.pre enc Tryd.prog Tryd.f7 [] false w args ∧ laidMetH Tryd.prog laid4 w) ∧ sizedMet enc Tryd.prog Tryd.f7 (OpenSpec.ofChange Rows.portSplitsSpec) false w args)
      (Rows.portSplitsSpec.post enc Tryd.prog Tryd.f7 false true false false) := by
  refine returnsInHanded_of_change_and (C := Tryd.checked) (X := fun w _ => laidMetH Tryd.prog laid4 w) (fun _ _ _ hh h => h.of_heap hh) own started (by kernel_rfl) Tryd.func7
    (ChangeSpec.witness_shaped (enc := enc) (C := Tryd.checked) (os := os) (X := fun w _ => laidMetH Tryd.prog laid4 w) false (World.laidAll Tryd.prog os laid4) #[.agg #[.int .i64 0, .slice none 0 0, .int .i64 0, .int .i64 0, .int .i64 0, .int .i64 0, .int .i64 0, .int .i64 0, .int .i64 0, .int .i64 0, .int .i64 0, .int .i64 0, .int .i64 0, .slice none 0 0, .int .u64 0, .int .i64 0, .int .i64 0, .int .u64 0, .int .i64 0, .int .i64 0, .int .u64 0, .int .i64 0, .int .i64 0, .slice none 0 0, .int .i64 0], .slice none 0 0] 8 (World.laidAll_os _ _ _)
      (World.shaped_of_ZipB (by kernel_rfl) (by kernel_rfl)) (by kernel_rfl) (by kernel_rfl) (by kernel_rfl)
      (by rw [MakeChecks.laidMetH_plain _ _ _ (by kernel_rfl)]; exact laidMet_laidAll _ (by kernel_rfl) (by kernel_rfl))) ?_
  intro W base args ds gs before hval0 hW _ _ hL _
  have hval : ∀ (j : Nat) t v, Tryd.f7.params[j]? = some t → args[j]? = some v → Value.okWide Tryd.prog W .any base t v := hval0
  have hW' := hW
  obtain ⟨p, q, hA0, hV, rfl, hfz, hnd⟩ := hW
  have hA : DataW.TrodAll enc Tryd.prog W 0 (fun _ => true) true Tryd.f7.params.toList args.toList ds p := hA0
  rw [Tryd.params7] at hA hval
  obtain ⟨v0, vs0, d0, ds0, p0, q0, hargs, rfl, rfl, h0, r0⟩ := trodAll_cons hA
  obtain ⟨v1, vs1, d1, ds1, p1, q1, rfl, rfl, rfl, h1, r1⟩ := trodAll_cons r0
  obtain ⟨rfl, rfl, rfl⟩ := trodAll_nil r1
  obtain rfl : args = #[v0, v1] := by cases args; simp_all
  obtain ⟨rfl, rfl⟩ := trodVars_none hV
  obtain ⟨cs0, rfl, hsz0⟩ := okWide_struct Tryd.underlying40 (hval 0 40 v0 rfl rfl)
  have k0 := h0
  have lt0 : ∀ x ∈ p0, x.block < W.heap.size := by obtain ⟨m, hm⟩ := k0; exact DataW.trod_lt m _ _ _ hm
  obtain ⟨f, c, x, ga, gn, gc, hf0, hx1⟩ : ∃ (f c : Int) (x : Nat → Value) (ga : Option Addr) (gn gc : Nat), cs0.toList = (cfgA f c x).toList ∧ x 1 = .slice ga gn gc := by
    obtain ⟨fuel, hf⟩ := h0
    exact cfg_open hf
  obtain rfl : cs0 = cfgA f c x := Array.toList_inj.1 hf0
  obtain ⟨a1, len1, cap1, rfl⟩ := okWide_slice Tryd.underlying55 (hval 1 55 v1 rfl rfl)
  have k1 := h1
  have lt1 : ∀ x ∈ p1, x.block < W.heap.size := by obtain ⟨m, hm⟩ := k1; exact DataW.trod_lt m _ _ _ hm
  obtain ⟨es, S, hv⟩ : ∃ es : List Et, SeesE W (.slice a1 len1 cap1) es ∧ (Value.slice a1 len1 cap1 = .slice none 0 0 ∨ ∃ x n cap, Value.slice a1 len1 cap1 = .slice (some x) n cap) := by
    obtain ⟨fuel, hf⟩ := h1
    obtain ⟨v, es, hv, hs⟩ := entries_open hf
    have hv' : v = .slice a1 len1 cap1 := by simpa [Value.cells] using hv.symm
    subst hv'
    refine ⟨es, hs, ?_⟩
    cases a1 with
    | some x => exact .inr ⟨x, len1, cap1, rfl⟩
    | none =>
      left
      rcases DataW.trod_slice Tryd.underlying55 hf with ⟨hcs, -⟩ | ⟨a, len, cap, _, _, _, -, hcs, -⟩
      · simpa [Value.cells] using hcs
      · simp [Value.cells] at hcs
  clear hA0 hval0
  refine (PortSplits_any f c x ga gn gc hx1 _ es W (glob_of_laid hL) S hv).mono fun e W' ⟨he, hb⟩ => ?_
  subst he
  exact ⟨_, rfl, _, _, _, [], _, [], hW', trodAll_mk1 (shut_bool Tryd.underlying4 _), (trodAll_cons_mk (Below.trod laidOut (by kernel_rfl) (of_decide_eq_true (by kernel_rfl)) k0 hb lt0) (trodAll_cons_mk (Below.trod laidOut (by kernel_rfl) (of_decide_eq_true (by kernel_rfl)) k1 hb lt1) trodAll_mk0)), rfl, hb.frame _, fun h => by cases h⟩

theorem over : Rows.PortSplitsSaid :=
  OpenClaim.holds_of_wide 7 Tryd.f7 rfl rfl rfl rfl rfl rfl rfl ⟨rfl, rfl, rfl, rfl, rfl⟩ rfl rfl rfl rfl rfl (by kernel_rfl) Tryd.func7 (by kernel_rfl)
    (of_decide_eq_true (by kernel_rfl)) (by unfold Func.isWrapper; first | (rw [if_pos (by decide +kernel)]; kernel_rfl) | (rw [if_neg (by decide +kernel)]; exact ⟨rfl, rfl⟩))
    (fun os started H enc _ => lifted os started H enc)

theorem proved : Rows.PortSplitsCardSaid :=
  Claim7.holds_tied_plain_at .later [] [.data, .data, .data, .data] true (true, "5e51e4d9762a4aa095b01c03726c23cb77c18ab9be983095ab08c632f34086b4") true
    over (fun _ h => by cases h) (by kernel_rfl) (fun _ h => by cases h) portSplits_row_tie rfl ⟨rfl, rfl⟩ (by kernel_rfl) rfl
    (fun f fn hf hfn => by
      obtain rfl : f = 7 := Option.some.inj ((show Tryd.prog.funcNamed "tipstaff/tipstafflaw24.PortSplits" = some 7 by kernel_rfl).symm.trans hf) |>.symm
      obtain rfl : fn = Tryd.f7 := (Option.some.inj (Tryd.func7.symm.trans hfn)).symm
      exact ⟨by kernel_rfl, fun j t ht => by
        rw [Tryd.params7] at ht
        have hm : t ∈ ([40, 55] : List TypeId) := by simpa using Array.mem_of_getElem? ht
        have hall : (([40, 55] : List TypeId).all fun u => !Tryd.prog.wantsStandIn u) = true := by kernel_rfl
        exact (show Tryd.prog.wantsStandIn t = false by simpa using List.all_eq_true.1 hall t hm)⟩)
    (by kernel_rfl)
end Go.Proofs.YtaipifjmkbcjjaaDoor.portSplits
