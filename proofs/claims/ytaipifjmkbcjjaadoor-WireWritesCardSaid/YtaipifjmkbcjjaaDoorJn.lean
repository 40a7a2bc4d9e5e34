/- Walks: the forms of several frames together. -/
import Derived.Test.YtaipifjmkbcjjaaDoorLy
import Derived.Test.YtaipifjmkbcjjaaDoorPl
import Derived.Test.YtaipifjmkbcjjaaDoorSf
namespace Go.Proofs.YtaipifjmkbcjjaaDoor
open Go.RowKit Go.Sort

def formF (f : Fr) : List UInt8 := form f.t f.k f.a f.b
def chkF (f : Fr) : Int := chk f.t f.k f.a f.b
/-- Several frames' forms, or the first error. -/
def joinS : List Fr → List UInt8 × Int
  | [] => ([], 0)
  | f :: fs => if chkF f ≠ 0 then ([], chkF f) else if (joinS fs).2 ≠ 0 then ([], (joinS fs).2) else (formF f ++ (joinS fs).1, 0)

theorem joinS_ok : ∀ fs : List Fr, (∀ f ∈ fs, chkF f = 0) → joinS fs = (fs.flatMap formF, 0)
  | [], _ => rfl
  | f :: fs, h => by
    unfold joinS
    rw [joinS_ok fs (fun g hg => h g (by simp [hg])), if_neg (by simpa using h f (by simp)), if_neg (by simp)]
    simp
theorem joinS_bad : ∀ (fs : List Fr) (k : Nat), k < fs.length → (∀ j, j < k → chkF (fs.getD j fr0) = 0) → chkF (fs.getD k fr0) ≠ 0 → joinS fs = ([], chkF (fs.getD k fr0))
  | [], k, h, _, _ => by simp at h
  | f :: fs, 0, _, _, hk => by
    unfold joinS
    rw [if_pos (by simpa using hk)]; rfl
  | f :: fs, k + 1, h, hj, hk => by
    have h0 := hj 0 (by omega)
    have ih := joinS_bad fs k (by simpa using h) (fun j hj' => by have := hj (j + 1) (by omega); simpa using this) (by simpa using hk)
    unfold joinS
    rw [ih, if_neg (by simpa using h0), if_pos (by simpa using hk)]
    simp

theorem formF_len (f : Fr) : (formF f).length ≤ 12 := by
  have h1 := form_len f.t f.k f.a f.b
  have h2 := pay_len f.t f.k f.a f.b
  unfold formF; omega
theorem join_len : ∀ fs : List Fr, (fs.flatMap formF).length ≤ 12 * fs.length
  | [] => by simp
  | f :: fs => by
    rw [List.flatMap_cons, List.length_append, List.length_cons]
    have := join_len fs
    have := formF_len f
    omega

theorem isB_below {T e : TypeId} {B b : Nat} {l : List Value} {w w' : World} (h : Lib.IsBuilder T e B b l w) (hb : RowKit.Below w.heap.size w w') : Lib.IsBuilder T e B b l w' := by
  have key : ∀ p, Lib.BuilderAt T e B b p l w → Lib.BuilderAt T e B b p l w' := fun p ⟨h1, v, h2, h3, h4⟩ => by
    have hlt : b < w.heap.size := (Array.getElem?_eq_some_iff.1 h2).1
    exact ⟨h1, v, (hb.block b hlt).trans h2, h3.kept (grown_below (r := none) hb) (by cases v.ownBlock <;> simp), h4⟩
  rcases h with h | h
  · exact .inl (key _ h)
  · exact .inr (key _ h)

theorem cells_str (l : List UInt8) : Lib.strCells (bs l) = Lib.byteCells l := by
  simp [Lib.strCells, Lib.byteCells, bs]
theorem cells_app (l m : List UInt8) : Lib.byteCells (l ++ m) = Lib.byteCells l ++ Lib.byteCells m := by simp [Lib.byteCells]
theorem cells_len (l : List UInt8) : (Lib.byteCells l).length = l.length := by simp [Lib.byteCells]

set_option maxRecDepth 100000 in
set_option maxHeartbeats 2000000 in
theorem join_cells (b off cap : Nat) (fs : List Fr) (hm : fs.length ≤ 1000) (w : World) (hg : Glob w)
    (hf : ∀ k j u, (fs.getD k fr0).c[j]? = some u → k < fs.length → w.cell? ⟨b, off + k * 4 + j, none⟩ = some u) (ao : Option Addr) (hao : 0 < fs.length → ao = some ⟨b, off, none⟩) :
    Calls Tryd.prog 56 #[.slice ao fs.length cap] w fun e w' => e = .returned (.tuple #[.string (bs (joinS fs).1), .int .i64 (joinS fs).2]) ∧ RowKit.Below w.heap.size w w' := by
  have hen : ∀ f W, RowKit.Below w.heap.size w W → chkF f = 0 → Calls Tryd.prog 48 #[f.v] W fun e w' => e = .returned (.tuple #[.string (bs (formF f)), .int .i64 0]) ∧ RowKit.Below W.heap.size W w' := fun f W hb h => encode_ok f.t f.k f.a f.b W h (hg.next hb)
  have heb : ∀ f W, chkF f ≠ 0 → Calls Tryd.prog 48 #[f.v] W fun e w' => e = .returned (.tuple #[.string (bs []), .int .i64 (chkF f)]) ∧ RowKit.Below W.heap.size W w' := fun f W h => encode_bad f.t f.k f.a f.b W h
  have hws := fun (B : Nat) (l : List UInt8) (s : ByteArray) (W : World) (h : Lib.IsBuilder 119 5 B B (Lib.byteCells l) W) (h1 : l.length + s.size ≤ 140737488355328) (h2 : B ≤ W.heap.size) => Tryd.Builder_WriteString B B (Lib.byteCells l) s W h (by rw [cells_len]; exact h1) h2
  have hst := fun (B : Nat) (l : List UInt8) (W : World) (h : Lib.IsBuilder 119 5 B B (Lib.byteCells l) W) (h2 : B ≤ W.heap.size) => Tryd.Builder_String_any B B l W h h2
  have HI0 := Lib.hid (Lib.fresh_isBuilder 119 5 w)
  have HB0 := Lib.hid (below_alloc w (.cells #[.pointer none, .slice none 0 0] 119))
  go_enter Tryd.func56, Tryd.ntmps56
  go_wp2
  go_loopw [11] (fun i wr => ∃ k : Nat, k ≤ fs.length ∧ i = .int .i64 k ∧ Hid (∀ j, j < k → chkF (fs.getD j fr0) = 0) ∧ Hid (Lib.IsBuilder 119 5 w.heap.size w.heap.size (Lib.byteCells ((fs.take k).flatMap formF)) wr) ∧ Hid (RowKit.Below w.heap.size w wr))
    (fun i _ => fs.length - (intOf i).toNat)
  case atStart => exact ⟨0, Nat.zero_le _, rfl, fun j hj => by omega, by show Lib.IsBuilder _ _ _ _ _ _; simpa [Lib.byteCells] using HI0.out, HB0.out⟩
  case round =>
    obtain ⟨k, hk, rfl, HK, HI, HB⟩ := hrel
    clear HI0 HB0
    by_cases hlt : k < fs.length
    · obtain rfl := hao (by omega)
      have a1 : (k : Int) < fs.length := by omega
      have a2 : (0 : Int) ≤ k := by omega
      obtain ⟨f, hfk⟩ : ∃ f, fs.getD k fr0 = f := ⟨_, rfl⟩
      have c0 := hf k 0 (.int .i64 f.t) (by rw [hfk]; rfl) hlt
      have c1 := hf k 1 (.int .i64 f.k) (by rw [hfk]; rfl) hlt
      have c2 := hf k 2 (.int .i64 f.a) (by rw [hfk]; rfl) hlt
      have c3 := hf k 3 (.int .i64 f.b) (by rw [hfk]; rfl) hlt
      have hbb : b < w.heap.size := World.block_lt_of_cell? w ⟨b, off + k * 4 + 0, none⟩ c0
      have q0 : ∀ a, wr.cell? ⟨b, a, none⟩ = w.cell? ⟨b, a, none⟩ := fun a => HB.out.cell (p := ⟨b, a, none⟩) hbb
      simp only [← q0, Nat.add_zero] at c0 c1 c2 c3
      have HBa := Lib.hid (HB.out.alloc HB.out.size (.cells f.c 68))
      have HIa := Lib.hid (isB_below HI.out (below_alloc wr (.cells f.c 68)))
      clear hf q0
      by_cases hok : chkF f = 0
      · have hcall := hen f (wr.alloc (.cells f.c 68)) HBa.out hok
        clear hen heb
        have hl1 := join_len (fs.take k)
        rw [List.length_take] at hl1
        have hl2 := formF_len f
        have HS : Hid ((fs.take (k + 1)).flatMap formF = (fs.take k).flatMap formF ++ formF f) := by
          show _ = _
          rw [List.take_add_one, List.getElem?_eq_getElem hlt, List.flatMap_append]
          rw [List.getD_eq_getElem?_getD, List.getElem?_eq_getElem hlt] at hfk
          simp at hfk
          simp [hfk]
        have HC : Hid (∀ j, j < k + 1 → chkF (fs.getD j fr0) = 0) := fun j hj => by
          by_cases e : j = k
          · subst e; rw [hfk]; exact hok
          · exact HK.out j (by omega)
        clear hfk hok
        go_wp2_with (first
          | (go_at_call 48; refine hcall.mono ?_; rintro e w1 ⟨rfl, hb1⟩; have HB1 := Lib.hid (HBa.out.trans (hb1.mono HBa.out.size)); have HI1 := Lib.hid (isB_below HIa.out hb1); clear hb1)
          | (go_at_call 79; refine (hws _ _ _ _ HI1.out (by rw [bs_size]; omega) HB1.out.size).mono ?_; rintro e w2 ⟨rfl, hbu, hb2⟩; have HB2 := Lib.hid (HB1.out.trans hb2); have HI2 := Lib.hid hbu; clear hbu hb2)
          | fail)
        go_roundw
        case rel =>
          refine ⟨k + 1, by omega, by go_num, HC.out, ?_, HB2⟩
          show Lib.IsBuilder _ _ _ _ _ _
          rw [HS.out, cells_app]
          have h := HI2.out
          rw [cells_str] at h
          exact .inr h
        case measure => simp [intOf]; omega
      · have hcall := heb f (wr.alloc (.cells f.c 68)) hok
        have hne : (chkF f != 0) = true := by simpa using hok
        have HJ := Lib.hid (joinS_bad fs k hlt HK.out (by rw [hfk]; exact hok))
        rw [hfk] at HJ
        clear hen heb hfk hok
        go_wp2_with (first
          | (go_at_call 48; refine hcall.mono ?_; rintro e w1 ⟨rfl, hb1⟩; have HB1 := Lib.hid (HBa.out.trans (hb1.mono HBa.out.size)); clear hb1)
          | fail)
        go_ret2
        rw [HJ.out]
        exact ⟨rfl, HB1.out⟩
    · have a1 : ¬ (k : Int) < fs.length := by omega
      obtain rfl : k = fs.length := by omega
      have HJ := Lib.hid (joinS_ok fs (fun f hfm => by
        obtain ⟨j, hj, rfl⟩ := List.getElem_of_mem hfm
        have := HK.out j hj
        rw [List.getD_eq_getElem?_getD, List.getElem?_eq_getElem hj] at this
        exact this))
      have HI' := HI.out
      rw [List.take_length] at HI'
      have HI2 := Lib.hid HI'
      clear HI' HI hf hen heb
      go_wp2_with (first
        | (go_at_call 80; refine (hst _ _ _ HI2.out HB.out.size).mono ?_; rintro e w2 ⟨rfl, hb2⟩; have HB2 := Lib.hid (HB.out.trans hb2); clear hb2)
        | fail)
      go_ret2
      rw [HJ.out]
      exact ⟨rfl, HB2.out⟩
end Go.Proofs.YtaipifjmkbcjjaaDoor
