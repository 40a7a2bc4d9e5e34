/- Walks: the forms of several frames together, by the reference. -/
import Derived.Test.YtaipifjmkbcjjaaDoorJn
import Derived.Test.YtaipifjmkbcjjaaDoorF
namespace Go.Proofs.YtaipifjmkbcjjaaDoor
open Go.RowKit Go.Sort

set_option maxRecDepth 100000 in
set_option maxHeartbeats 2000000 in
theorem ojoin_cells (b off cap : Nat) (fs : List Fr) (hm : fs.length ≤ 1000) (w : World)
    (hf : ∀ k j u, (fs.getD k fr0).c[j]? = some u → k < fs.length → w.cell? ⟨b, off + k * 4 + j, none⟩ = some u) (ao : Option Addr) (hao : 0 < fs.length → ao = some ⟨b, off, none⟩) :
    Calls Tryd.prog 60 #[.slice ao fs.length cap] w fun e w' => e = .returned (.tuple #[.string (bs (joinS fs).1), .int .i64 (joinS fs).2]) ∧ RowKit.Below w.heap.size w w' := by
  have hen : ∀ f W, chkF f = 0 → Calls Tryd.prog 57 #[f.v] W fun e w' => e = .returned (.tuple #[.string (bs (formF f)), .int .i64 0]) ∧ RowKit.Below W.heap.size W w' := fun f W h => refEncode_ok f.t f.k f.a f.b W h
  have heb : ∀ f W, chkF f ≠ 0 → Calls Tryd.prog 57 #[f.v] W fun e w' => e = .returned (.tuple #[.string (bs []), .int .i64 (chkF f)]) ∧ RowKit.Below W.heap.size W w' := fun f W h => refEncode_bad f.t f.k f.a f.b W h
  have HB0 := Lib.hid (Below.refl w.heap.size w)
  go_enter Tryd.func60, Tryd.ntmps60
  go_wp2
  go_loopw [4, 5] (fun s i wr => ∃ k : Nat, k ≤ fs.length ∧ i = .int .i64 k ∧ Hid (∀ j, j < k → chkF (fs.getD j fr0) = 0) ∧ (∃ S, s = .string S ∧ Hid (S = bs ((fs.take k).flatMap formF))) ∧ Hid (RowKit.Below w.heap.size w wr))
    (fun _ i _ => fs.length - (intOf i).toNat)
  case atStart => exact ⟨0, Nat.zero_le _, rfl, fun j hj => by omega, ⟨_, rfl, by show _ = _; simp [bs]⟩, HB0.out⟩
  case round =>
    obtain ⟨k, hk, rfl, HK, ⟨S, rfl, HS⟩, HB⟩ := hrel
    clear HB0
    by_cases hlt : k < fs.length
    · obtain rfl := hao (by omega)
      have a1 : (k : Int) < fs.length := by omega
      have a2 : (0 : Int) ≤ k := by omega
      obtain ⟨f, hfk⟩ : ∃ f, fs.getD k fr0 = f := ⟨_, rfl⟩
      have c0 := hf k 0 (.int .i64 f.t) (by rw [hfk]; rfl) hlt
      have c1 := hf k 1 (.int .i64 f.k) (by rw [hfk]; rfl) hlt
      have c2 := hf k 2 (.int .i64 f.a) (by rw [hfk]; rfl) hlt
      have c3 := hf k 3 (.int .i64 f.b) (by rw [hfk]; rfl) hlt
      have hbb : b < w.heap.size := World.block_lt_of_cell? w ⟨b, off + k * 4 + 0, none⟩ c0
      have q0 : ∀ a, wr.cell? ⟨b, a, none⟩ = w.cell? ⟨b, a, none⟩ := fun a => HB.out.cell (p := ⟨b, a, none⟩) hbb
      simp only [← q0, Nat.add_zero] at c0 c1 c2 c3
      clear hf q0
      by_cases hok : chkF f = 0
      · have hcall := hen f wr hok
        have hl1 := join_len (fs.take k)
        rw [List.length_take] at hl1
        have hl2 := formF_len f
        have hS : S.size ≤ 12000 := by rw [HS.out, bs_size]; omega
        have hX : (bs (formF f)).size ≤ 12 := by rw [bs_size]; exact hl2
        have HS2 : Hid (S ++ bs (formF f) = bs ((fs.take (k + 1)).flatMap formF)) := by
          show _ = _
          rw [List.take_add_one, List.getElem?_eq_getElem hlt, List.flatMap_append, HS.out, bs_append]
          rw [List.getD_eq_getElem?_getD, List.getElem?_eq_getElem hlt] at hfk
          simp at hfk
          simp [hfk]
        have HC : Hid (∀ j, j < k + 1 → chkF (fs.getD j fr0) = 0) := fun j hj => by
          by_cases e : j = k
          · subst e; rw [hfk]; exact hok
          · exact HK.out j (by omega)
        clear hen heb hfk hok hl1 hl2 HS HK
        generalize bs (formF f) = X at *
        have n1 : ¬ 9223372036854775807 < S.size + X.size := by omega
        go_wp2_with (first
          | (go_at_call 57; refine hcall.mono ?_; rintro e w1 ⟨rfl, hb1⟩; have HB1 := Lib.hid (HB.out.trans (hb1.mono HB.out.size)); clear hb1)
          | fail)
        go_roundw
        case rel => exact ⟨k + 1, by omega, by go_num, HC, ⟨_, rfl, HS2⟩, HB1⟩
        case measure => simp [intOf]; omega
      · have hcall := heb f wr hok
        have hne : (chkF f != 0) = true := by simpa using hok
        have HJ := Lib.hid (joinS_bad fs k hlt HK.out (by rw [hfk]; exact hok))
        rw [hfk] at HJ
        clear hen heb hfk hok
        go_wp2_with (first
          | (go_at_call 57; refine hcall.mono ?_; rintro e w1 ⟨rfl, hb1⟩; have HB1 := Lib.hid (HB.out.trans (hb1.mono HB.out.size)); clear hb1)
          | fail)
        go_ret2
        rw [HJ.out]
        exact ⟨rfl, HB1.out⟩
    · have a1 : ¬ (k : Int) < fs.length := by omega
      obtain rfl : k = fs.length := by omega
      have HJ := Lib.hid (joinS_ok fs (fun f hfm => by
        obtain ⟨j, hj, rfl⟩ := List.getElem_of_mem hfm
        have := HK.out j hj
        rw [List.getD_eq_getElem?_getD, List.getElem?_eq_getElem hj] at this
        exact this))
      have HS' := HS.out
      rw [List.take_length] at HS'
      have HS2 := Lib.hid HS'
      clear HS' HS hf hen heb
      go_wp2_with fail
      go_ret2
      rw [HJ.out, HS2.out]
      exact ⟨rfl, HB.out⟩

theorem ojoin_sees {v : Value} {fs : List Fr} {w : World} (S : SeesF w v fs) (hm : fs.length ≤ 1000) :
    Calls Tryd.prog 60 #[v] w fun e w' => e = .returned (.tuple #[.string (bs (joinS fs).1), .int .i64 (joinS fs).2]) ∧ RowKit.Below w.heap.size w w' := by
  obtain ⟨ao, cap, rfl, hc⟩ := S
  rcases Nat.eq_zero_or_pos fs.length with h0 | h0
  · obtain rfl := List.eq_nil_of_length_eq_zero h0
    exact ojoin_cells 0 0 cap [] (by simp) w (fun k j u _ hk => by simp at hk) ao (fun h => by simp at h)
  · obtain ⟨b, off, rfl, hx⟩ := hc h0
    exact ojoin_cells b off cap fs hm w hx _ (fun _ => rfl)

theorem flat_cells {w : World} {v : Value} {fs : List Fr} (S : SeesF w v fs) {x : Addr} {n cap : Nat} (hv : v = .slice (some x) n cap) : n = fs.length ∧ ∀ j u, (flat fs)[j]? = some u → w.cell? (x.add j) = some u := by
  obtain ⟨ao, c, hv', hc⟩ := S
  rw [hv'] at hv
  simp only [Value.slice.injEq] at hv
  obtain ⟨rfl, rfl, rfl⟩ := hv
  refine ⟨rfl, fun j u hu => ?_⟩
  have hjl : j < (flat fs).length := (List.getElem?_eq_some_iff.1 hu).1
  rw [flat_len] at hjl
  obtain ⟨b, off, he, hx⟩ := hc (by omega)
  obtain rfl := Option.some.inj he
  have hk : j / 4 < fs.length := by omega
  have hr : j % 4 < 4 := Nat.mod_lt _ (by decide)
  obtain ⟨u', hu'⟩ : ∃ u', (fs.getD (j / 4) fr0).c[j % 4]? = some u' := ⟨_, Array.getElem?_eq_getElem (by simpa using hr)⟩
  have h1 := flat_at fs (j / 4) (j % 4) u' hu' hk
  have ej : j / 4 * 4 + j % 4 = j := by omega
  rw [ej, hu] at h1
  obtain rfl := Option.some.inj h1
  have h2 := hx (j / 4) (j % 4) u hu' hk
  have e : (⟨b, off, none⟩ : Addr).add j = ⟨b, off + j / 4 * 4 + j % 4, none⟩ := by
    unfold Addr.add
    split
    · subst_vars; rfl
    · simp; omega
  rw [e]; exact h2
end Go.Proofs.YtaipifjmkbcjjaaDoor
